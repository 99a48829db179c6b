/-
  The walk of l8Has of the reference. For at most 2^20 list elements.
  The test that always holds, as what is asked of a beginning and of a whole list. No conditions.
-/
import Derived.Test.YtgklgheaojoimaaPk11
import Derived.Test.YtgklgheaojoimaaFirstList
namespace Go.Proofs.Ytgklgheaojoimaa
open Go.RowKit

theorem inB_hit {xs : List Int} {v : Int} {k : Nat} (hk : k < xs.length) (h : (gi xs k == v) = true) : inB xs v = true := inB_true.2 ⟨k, hk, by simpa using h⟩
theorem inB_miss {xs : List Int} {v : Int} (h : ∀ j, j < xs.length → (gi xs j == v) = false) : inB xs v = false := by
  rw [← Bool.not_eq_true, inB_true]
  rintro ⟨j, hj, e⟩
  have := h j hj
  rw [e] at this; simp at this

theorem l8Has_any (xs : List Int) (v : Int) (ao : Option Addr) (n c : Nat) (w : World) (hx : IntsAt w ao xs) (hn : n = xs.length) (hl : n ≤ 1048576) :
    Calls Try.prog 149 #[.slice ao n c, .int .i64 v] w fun e w' => e = .returned (.bool (inB xs v)) ∧ w = w' := by
  subst hn
  go_enter Try.func149, Try.ntmps149
  go_wp2_with fail
  go_loopw [5] (fun i wr => wr = w ∧ ∃ k : Nat, k ≤ xs.length ∧ i = .int .i64 k ∧ ∀ j, j < k → (gi xs j == v) = false) (fun i _ => xs.length - (intOf i).toNat)
  case atStart => exact ⟨rfl, 0, by omega, rfl, fun j h => by omega⟩
  case round =>
    obtain ⟨rfl, k, hk, rfl, hP⟩ := hrel
    have HhP := Lib.hid hP
    clear hP
    by_cases hlt : k < xs.length
    · obtain ⟨b, off, rfl, hb, hc⟩ := hx (by omega)
      have hkc := hc k hlt
      have HH := Lib.hid (fun h => inB_hit (v := v) hlt h)
      have HN := Lib.hid (fun h => all_succ (p := fun j => (gi xs j == v) = false) HhP.out h)
      clear hc
      generalize gi xs k = a at *
      cases he : (a == v)
      · go_wp2_with fail
        go_roundw
        case rel => exact ⟨by trivial, k + 1, by omega, by go_num, HN.out he⟩
        case measure => simp [intOf]; omega
      · go_wp2_with fail
        go_ret
        exact ⟨retB (by rw [HH.out he]), rfl⟩
    · have HM := Lib.hid (inB_miss (fun j hj => HhP.out j (by omega)))
      go_wp2_with fail
      go_ret
      exact ⟨retB (by rw [HM.out]), rfl⟩

end Go.Proofs.Ytgklgheaojoimaa

namespace Go.Proofs.Ytgklgheaojoimaa
open Go.RowKit

theorem always_any (X : Nat → Prop) (W : World) (n : Nat) : HoldsOf (S := Unit) 81 #[] X W (fun _ _ => ((), true)) (fun _ _ => True) n := by
  intro m s l ao cap _ hl hn hc
  show Calls Try.prog 81 #[.slice ao n cap] m.w _
  go_enter Try.func81, Try.ntmps81
  go_wp2_with fail
  go_ret
  exact ⟨rfl, trivial, Only.refl _ _ _⟩
theorem alwaysMay_any (X : Nat → Prop) (W : World) (n : Nat) : MayOf 81 #[] X W (fun _ => true) n := by
  intro m l ao n cap hl hn hc hm h0
  show Calls Try.prog 81 #[.slice ao n cap] m.w _
  go_enter Try.func81, Try.ntmps81
  go_wp2_with fail
  go_ret
  exact ⟨rfl, Below.refl _ _⟩

end Go.Proofs.Ytgklgheaojoimaa
