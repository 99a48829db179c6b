/-
  The laws' own test that two lists are the same. The lists have at most 2^47 elements.
-/
import Derived.Test.YtkefkmjfjghggaaConv
namespace Go.Proofs.Ytkefkmjfjghggaa
open Go.RowKit

set_option maxHeartbeats 400000 in
theorem lawSameInts_any (ao bo : Option Addr) (xs ys : List Int) (c d : Nat) (w : World) (hx : IntsAt w ao xs) (hy : IntsAt w bo ys) (hn : xs.length ≤ 140737488351232) (hm : ys.length ≤ 140737488351232) :
    Calls Try.prog 16 #[.slice ao xs.length c, .slice bo ys.length d] w fun e w' => e = .returned (.bool (sameInts xs ys)) ∧ Below w.heap.size w w' := by
  by_cases hl : xs.length = ys.length
  · have hb : ((xs.length : Int) != ys.length) = false := by rw [hl]; simp
    have HL := Lib.hid hl
    clear hl
    go_enter Try.func16, Try.ntmps16
    go_wp2_with fail
    go_loopw [5] (fun i wr => (∃ m : Later w, wr = m.w) ∧ ∃ k : Nat, k ≤ xs.length ∧ i = .int .i64 k ∧ ∀ j, j < k → gi xs j = gi ys j) (fun i _ => xs.length - (intOf i).toNat)
    case atStart => exact ⟨⟨Later.refl _, rfl⟩, 0, by omega, rfl, fun j h => by omega⟩
    case round =>
      obtain ⟨⟨m, rfl⟩, k, hk, rfl, hP⟩ := hrel
      have HP := Lib.hid hP
      clear hP
      by_cases hlt : k < xs.length
      · have hlt' : k < ys.length := by rw [← HL.out]; exact hlt
        obtain ⟨b, off, rfl, hbl, hc⟩ := hx (by omega)
        obtain ⟨b2, off2, rfl, hbl2, hc2⟩ := hy (by omega)
        go_wp2_with fail
        cases he : (gi xs k != gi ys k)
        all_goals
          refine wp_region_later m rfl (by kernel_rfl) (by kernel_rfl) ?_
          repeat (go_big_quiet_step (fail))
          refine wpQuiet_nil ?_
          rintro _ ⟨m, rfl⟩
          go_wp2_with fail
        · go_roundw
          case rel =>
            refine ⟨⟨m, rfl⟩, k + 1, by omega, by go_num, fun j hj => ?_⟩
            rcases Nat.lt_succ_iff_lt_or_eq.1 hj with hj | rfl
            · exact HP.out j hj
            · simpa using he
          case measure => simp [intOf]; omega
        · go_ret
          exact ⟨retB (by rw [sameInts_at (by simpa using he)]), m.below⟩
      · go_wp2_with fail
        go_ret
        exact ⟨retB (by rw [sameInts_all HL.out (fun j hj => HP.out j (by omega))]), m.below⟩
  · have hb : ((xs.length : Int) != ys.length) = true := by simp; omega
    have HL := Lib.hid hl
    clear hl
    go_enter Try.func16, Try.ntmps16
    go_wp2_with fail
    go_ret
    exact ⟨retB (by rw [sameInts_len HL.out]), Below.refl _ _⟩

end Go.Proofs.Ytkefkmjfjghggaa
