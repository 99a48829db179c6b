/-
  colorings of the program for whatever visitor; CountColorings and ColoringWith of the program. For at most 2^20 rows.
-/
import Derived.Test.YtkefkmjfjghggaaColor
import Derived.Laws.EntriesVeiled
namespace Go.Proofs.Ytkefkmjfjghggaa
open Go.RowKit

theorem alloc6 {w W1 : World} {c0 c1 c2 c3 c4 c5 : Array Value} {T0 T1 T2 T3 T4 T5 : TypeId} (h : ((((((w.alloc (.cells c0 T0)).alloc (.cells c1 T1)).alloc (.cells c2 T2)).alloc (.cells c3 T3)).alloc (.cells c4 T4)).alloc (.cells c5 T5)) = W1) :
    Below w.heap.size w W1 ∧ W1.heap.size = w.heap.size + 6 ∧ Blk W1 w.heap.size c0 T0 ∧ Blk W1 (w.heap.size + 1) c1 T1 ∧ Blk W1 (w.heap.size + 1 + 1) c2 T2 ∧ Blk W1 (w.heap.size + 1 + 1 + 1) c3 T3 ∧ Blk W1 (w.heap.size + 1 + 1 + 1 + 1) c4 T4 ∧ Blk W1 (w.heap.size + 1 + 1 + 1 + 1 + 1) c5 T5 := by
  obtain ⟨U, hU⟩ : ∃ U, (((w.alloc (.cells c0 T0)).alloc (.cells c1 T1)).alloc (.cells c2 T2)) = U := ⟨_, rfl⟩
  obtain ⟨b1, b2, b3, b4, b5⟩ := alloc3 hU
  rw [hU] at h
  obtain ⟨d1, d2, d3, d4, d5⟩ := alloc3 h
  rw [b2] at d1 d2 d3 d4 d5
  exact ⟨b1.trans (d1.mono (by omega)), d2, b3.below d1 (by omega), b4.below d1 (by omega), b5.below d1 (by omega), d3, d4, d5⟩

set_option maxRecDepth 100000 in
set_option maxHeartbeats 1000000 in
theorem colorings_any {S : Type} (V : S → List Int → S × Bool) (enc : S → Value) (J : S → World → Prop) (T0 : TypeId) (rs : List Int) (ro : Option Addr) (rc kc K bv : Nat) (s : S) (W0 w : World) (g : VG rs) (hk : kc ≤ 7)
    (hW0 : Below W0.heap.size W0 w) (hr : IntsAt W0 ro rs) (hb0 : W0.heap.size ≤ bv) (hb : Blk w bv #[enc s] T0)
    (hE : ∀ args w, Sem.run Try.prog (callFunc K args) w = .ok (.enter K args) w) (hK : VisitOf K V enc J T0 bv rs.length) :
    Calls Try.prog 73 #[.agg #[.int .i64 rs.length, .slice ro rs.length rc], .int .i64 kc, .func (.func K) #[] #[.pointer (some ⟨bv, 0, none⟩)]] w fun e w' =>
      e = .returned (.tuple #[]) ∧ Only (fun b => b = bv) w.heap.size w w' ∧ ((colRun V rs kc rs.length s []).2 = true → Blk w' bv #[enc (colRun V rs kc rs.length s []).1] T0) ∧ ((colRun V rs kc rs.length s []).2 = false → J (colRun V rs kc rs.length s []).1 w') := by
  have HhK := Lib.hid hK
  clear hK
  go_enter Try.func73, Try.ntmps73
  go_wp2_with fail
  generalize hW1 : World.alloc _ _ = W1
  obtain ⟨hB1, hs1, k0, k1, k2, k3, k4, k5⟩ := alloc6 hW1
  have hbl := hb.lt
  have hb2 := hb.below hB1 hbl
  refine (colSearch_any V enc J T0 rs ro rc kc K bv (w.heap.size + 1 + 1 + 1 + 1) w.heap.size (w.heap.size + 1 + 1) (w.heap.size + 1) (w.heap.size + 1 + 1 + 1 + 1 + 1) W1 g hk
    (fun m => hr.below ((hW0.trans (hB1.mono hW0.size)).trans (m.only.below (Nat.le_trans hW0.size hB1.size) (fun b hb h => by unfold XX at h; have := hW0.size; omega)))) k0 k2 k1 k5 (by omega) (by omega) (by omega) (by unfold XX; omega) (by unfold XX; omega) (by unfold XX; omega) (by unfold XX; omega) hE HhK.out
    rs.length [] s (LateX.refl _ W1) (some ⟨w.heap.size + 1 + 1 + 1, 0, none⟩) 0 (by simp) hb2 k4 (OwnE.empty _ _ _) (by simp)).mono ?_
  rintro e w' ⟨rfl, m', rfl, hT, hF⟩
  have hO : Only (fun b => b = bv) w.heap.size w m'.w := (Only.of hB1).trans (m'.only.mono hB1.size (fun b hb h => by unfold XX at h; omega))
  go_wp2_with fail
  go_end0
  exact ⟨rfl, hO, fun h => (hT h).1, hF⟩

end Go.Proofs.Ytkefkmjfjghggaa
