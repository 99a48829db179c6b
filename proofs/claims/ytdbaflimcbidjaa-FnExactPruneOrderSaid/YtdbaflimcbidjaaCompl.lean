/-
  copyGraph and ComplementOf of the program. For at most 2^20 rows.
-/
import Derived.Test.YtdbaflimcbidjaaMark
import Derived.Test.YtdbaflimcbidjaaSets
import Derived.Deep.RegionHeld3
namespace Go.Proofs.Ytdbaflimcbidjaa
open Go.RowKit

theorem RowAt.otherCell {w : World} {g cap : Nat} {xs : List Int} (h : RowAt w g cap xs) {a : Addr} {v : Value} (hne : g ≠ a.block) : RowAt (w.setCell a v) g cap xs := by
  obtain ⟨cur, hb, hr⟩ := h
  exact ⟨cur, hb.other v hne, hr⟩

/-- The row of v in the complement. -/
def complRow (rs : List Int) (v : Nat) : Nat := nDiff (nDiff (2 ^ rs.length - 1) (gn rs v)) (2 ^ v)
def compl (rs : List Int) : List Int := (List.range rs.length).map fun v : Nat => (complRow rs v : Int)
theorem compl_len (rs : List Int) : (compl rs).length = rs.length := by simp [compl]
theorem compl_at {rs : List Int} {v : Nat} (h : v < rs.length) : gi (compl rs) v = (complRow rs v : Int) := by simp [compl, gi, h]

set_option maxRecDepth 100000 in
set_option maxHeartbeats 1000000 in
theorem copyGraph_any (n : Int) (rs : List Int) (ro : Option Addr) (rc : Nat) (w : World) (hr : IntsAt w ro rs) (hrl : rs.length ≤ 1048576) (h0 : 0 < rs.length) :
    Calls Try.prog 79 #[.agg #[.int .i64 n, .slice ro rs.length rc]] w fun e w' => ∃ g1 cap, e = .returned (.agg #[.int .i64 n, .slice (some ⟨g1, 0, none⟩) rs.length cap]) ∧ Below w.heap.size w w' ∧ w.heap.size ≤ g1 ∧ RowAt w' g1 cap rs := by
  obtain ⟨rb, rofs, rfl, hrb, -⟩ := hr h0
  go_enter Try.func79, Try.ntmps79
  go_wp2_with fail
  generalize hW : World.alloc _ _ = W1
  obtain ⟨hB, hs, k0, k1⟩ := alloc2 hW
  replace hr := hr.upto.below hB (Nat.le_refl _)
  have hS' : ∀ w', Below (w.heap.size + 1) W1 w' → Below (w.heap.size + 1) W1 w' ∧ w'.cell? ⟨w.heap.size, 0, none⟩ = some (.int .i64 n) ∧ w'.cell? ⟨w.heap.size, 1, none⟩ = some (.slice (some ⟨rb, rofs, none⟩) rs.length rc) := fun w' h => by
    have c0 := k0.cell 0
    have c1 := k0.cell 1
    simp at c0 c1
    exact ⟨h, (h.cell (by simp)).trans c0, (h.cell (by simp)).trans c1⟩
  clear hW
  have HhB := Lib.hid hB
  clear hB
  obtain ⟨m, hm0⟩ : ∃ m : Later W1, m.w = W1 := ⟨Later.refl _, rfl⟩
  refine (fun h => hm0 ▸ h) ?_
  clear hm0
  have hB0 : Below (w.heap.size + 1) W1 m.w := m.below.mono (by omega)
  go_region_held3 (fun w' => Below (w.heap.size + 1) W1 w' ∧ w'.cell? ⟨w.heap.size, 0, none⟩ = some (.int .i64 n) ∧ w'.cell? ⟨w.heap.size, 1, none⟩ = some (.slice (some ⟨rb, rofs, none⟩) rs.length rc))
    (exact hS' _ (by first | exact hB0.drew | assumption | exact Below.alloc (And.left (by assumption : Below (w.heap.size + 1) W1 _ ∧ _)) (Nat.le_trans (by omega) (And.left (by assumption : Below (w.heap.size + 1) W1 _ ∧ _)).size) _ | exact ((And.left (by assumption : Below (w.heap.size + 1) W1 _ ∧ _)).setCell (by simp) _).setCell (by simp) _))
    (first
      | ((refine step_append_copy (by rfl) _ _ (by rfl) W1.heap.size _ ⟨rb, rofs, none⟩ rs rc (by rfl) (by rfl) (hr.below (B' := w.heap.size + 1) (And.left (by assumption : Below (w.heap.size + 1) W1 _ ∧ _)) (Nat.le_succ _)).ints (And.left (by assumption : Below (w.heap.size + 1) W1 _ ∧ _)).size (by omega) ?_); intro ao1 cap1 w1 hne1 hown1 hBw1; have hB2 : Below W1.heap.size W1 w1 := ((m.below.drew).alloc m.size _).trans (hBw1.mono (Nat.le_trans m.size (Nat.le_of_lt (by simp)))); have hB3 : Below (w.heap.size + 1) W1 w1 := hB2.mono (by omega); have y1 := k1.below hB2 k1.lt; have y2 := y1.cell 0; have y3 := y1.cell 1; have y4 := y1.frozen 0; have y5 := y1.frozen 1))
  simp at y2 y3
  obtain ⟨g1, rfl, hg1, hR⟩ := hown1.row h0
  have hF : Below w.heap.size w ((w1.setCell ⟨w.heap.size + 1, 0, none⟩ (.int .i64 n)).setCell ⟨w.heap.size + 1, 1, none⟩ (.slice (some ⟨g1, 0, none⟩) rs.length cap1)) :=
    ((HhB.out.trans (hB2.mono HhB.out.size)).setCell (by simp) _).setCell (by simp) _
  have hRF : RowAt ((w1.setCell ⟨w.heap.size + 1, 0, none⟩ (.int .i64 n)).setCell ⟨w.heap.size + 1, 1, none⟩ (.slice (some ⟨g1, 0, none⟩) rs.length cap1)) g1 cap1 rs :=
    (hR.otherCell (by simp; omega)).otherCell (by simp; omega)
  have hgw : w.heap.size ≤ g1 := by omega
  have HhF := Lib.hid hF
  clear hF
  have HhRF := Lib.hid hRF
  clear hRF
  have HhR := Lib.hid hR
  clear hR
  have Hhown1 := Lib.hid hown1
  clear hown1
  have Hhgw := Lib.hid hgw
  clear hgw
  go_wp2_with fail
  refine bodyPost_ret (v := .agg #[.int .i64 n, .slice (some ⟨g1, 0, none⟩) rs.length cap1]) (by simp [results, Try.results79, go_sem, y2, y3]) rfl ?_
  exact ⟨g1, cap1, rfl, HhF.out, Hhgw.out, HhRF.out⟩

theorem RowAt.below {w w' : World} {g cap : Nat} {xs : List Int} (h : RowAt w g cap xs) (hb : Below w.heap.size w w') : RowAt w' g cap xs := by
  obtain ⟨cur, h1, h2⟩ := h
  exact ⟨cur, h1.below hb h1.lt, h2⟩
theorem LateX.setOn {X : Nat → Prop} {W : World} (m : LateX X W) {a : Addr} (hx : X a.block) (v : Value) : ∃ m' : LateX X W, m'.w = m.w.setCell a v := ⟨⟨_, m.only.setCell (.inl hx) v⟩, rfl⟩



end Go.Proofs.Ytdbaflimcbidjaa
