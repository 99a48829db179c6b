/-
  The test that always holds, as what is asked of a beginning and of a whole list. No conditions.
-/
import Derived.Test.YtdbaflimcbidjaaFirstList
namespace Go.Proofs.Ytdbaflimcbidjaa
open Go.RowKit

theorem always_any (X : Nat → Prop) (W : World) (n : Nat) : HoldsOf (S := Unit) 95 #[] X W (fun _ _ => ((), true)) (fun _ _ => True) n := by
  intro m s l ao cap _ hl hn hc
  show Calls Try.prog 95 #[.slice ao n cap] m.w _
  go_enter Try.func95, Try.ntmps95
  go_wp2_with fail
  go_ret
  exact ⟨rfl, trivial, Only.refl _ _ _⟩
theorem alwaysMay_any (X : Nat → Prop) (W : World) (n : Nat) : MayOf 95 #[] X W (fun _ => true) n := by
  intro m l ao n cap hl hn hc hm h0
  show Calls Try.prog 95 #[.slice ao n cap] m.w _
  go_enter Try.func95, Try.ntmps95
  go_wp2_with fail
  go_ret
  exact ⟨rfl, Below.refl _ _⟩

end Go.Proofs.Ytdbaflimcbidjaa
