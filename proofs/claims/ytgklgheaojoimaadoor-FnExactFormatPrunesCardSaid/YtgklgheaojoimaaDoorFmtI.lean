/-
  The closure of the program's FormatPrunes, and slices.IndexFunc and slices.ContainsFunc over prunes. For at most 2^20 prunes.
-/
import Derived.Test.YtgklgheaojoimaaDoorFmtD
import Derived.Test.YtgklgheaojoimaaDoorSlices
import Derived.Deep.CutRange
namespace Go.Proofs.YtgklgheaojoimaaDoor
open Go.RowKit

theorem idxV_firstP {p : Nat → Bool} {n k : Nat} (hk : k < n) (h : ∀ j, j < k → p j = false) (hp : p k = true) : (k : Int) = idxV (firstB p n) := by rw [firstB_hit hk h hp]; rfl
theorem idxV_neverP {p : Nat → Bool} {n : Nat} (h : ∀ j, j < n → p j = false) : -1 = idxV (firstB p n) := by rw [firstB_none h]; rfl

theorem prBad_any (v q a : Int) (w : World) :
    Calls Tryd.prog 52 #[.agg #[.int .i64 v, .int .i64 q, .int .i64 a]] w fun e w' => e = .returned (.bool !((decide (0 ≤ v) && decide (v ≤ 6)) && ((decide (0 ≤ q) && decide (q ≤ 3)) && (decide (-1 ≤ a) && decide (a ≤ 6))))) ∧ Below w.heap.size w w' := by
  go_enter Tryd.func52, Tryd.ntmps52
  cases h1 : (decide (0 ≤ v) && decide (v ≤ 6))
  all_goals
    cases h2 : (decide (0 ≤ q) && decide (q ≤ 3))
    all_goals
      cases h3 : (decide (-1 ≤ a) && decide (a ≤ 6))
      all_goals
        go_wp2_with (first | (go_at_call 40; refine (within_any _ _ _ _).mono ?_; rintro e w' ⟨rfl, rfl⟩) | (go_at_call 40; refine (within_any _ _ _ _).mono ?_; rintro e w' ⟨rfl, rfl⟩) | (go_at_call 40; refine (within_any _ _ _ _).mono ?_; rintro e w' ⟨rfl, rfl⟩))
        go_ret
        exact ⟨rfl, (Below.refl _ _).alloc (Nat.le_refl _) _⟩

set_option maxHeartbeats 1000000 in
theorem indexFuncP_any (l : List Int) (F : Nat) (p : Nat → Bool) (ao : Option Addr) (n c : Nat) (w : World) (hx : IntsAt w ao l) (hn : l.length = n * 3) (hl : n ≤ 1048576)
    (hE : ∀ args w, Sem.run Tryd.prog (callFunc F args) w = .ok (.enter F args) w) (hK : ∀ (m : Later w) (j : Nat), j < n → Calls Tryd.prog F (#[.agg #[.int .i64 (gi l (j * 3)), .int .i64 (gi l (j * 3 + 1)), .int .i64 (gi l (j * 3 + 2))]] ++ #[]) m.w fun e w' => e = .returned (.bool (p j)) ∧ Below m.w.heap.size m.w w') :
    Calls Tryd.prog 65 #[.slice ao n c, .func (.func F) #[] #[]] w fun e w' => e = .returned (.int .i64 (idxV (firstB p n))) ∧ Below w.heap.size w w' := by
  have HhK := Lib.hid hK
  clear hK
  have Hhn := Lib.hid hn
  clear hn
  go_enter Tryd.func65, Tryd.ntmps65
  go_wp2_with fail
  go_loopw [8] (fun i wr => (∃ m : Later w, wr = m.w) ∧ ∃ k : Nat, k ≤ n ∧ i = .int .i64 k ∧ ∀ j, j < k → p j = false) (fun i _ => n - (intOf i).toNat)
  case atStart => exact ⟨⟨Later.refl _, rfl⟩, 0, by omega, rfl, fun j h => by omega⟩
  case round =>
    obtain ⟨⟨m, rfl⟩, k, hk, rfl, hP⟩ := hrel
    have HhP := Lib.hid hP
    clear hP
    by_cases hlt : k < n
    · obtain ⟨b, off, rfl, hb, hc⟩ := hx (by have := Hhn.out; omega)
      have x0 := hc (k * 3) (by have := Hhn.out; omega)
      have x1 := hc (k * 3 + 1) (by have := Hhn.out; omega)
      have x2 := hc (k * 3 + 2) (by have := Hhn.out; omega)
      rw [← Nat.add_assoc] at x1 x2
      have hKk := HhK.out m k hlt
      clear hc
      generalize gi l (k * 3) = V at *
      generalize gi l (k * 3 + 1) = Q at *
      generalize gi l (k * 3 + 2) = A at *
      have HhKk := Lib.hid hKk
      clear hKk
      go_wp2_with fail
      refine HhKk.out.mono ?_
      rintro e w2 ⟨rfl, hB2⟩
      obtain ⟨m, rfl⟩ : ∃ m2 : Later w, m2.w = w2 := ⟨m.on hB2, rfl⟩
      clear hB2
      cases he : p k
      all_goals
        go_wp2_with fail
      · go_roundw
        case rel => exact ⟨⟨m, rfl⟩, k + 1, by omega, by go_num, all_succ HhP.out he⟩
        case measure => simp [intOf]; omega
      · go_ret
        exact ⟨retI (idxV_firstP hlt HhP.out he), m.below⟩
    · go_wp2_with fail
      go_ret
      exact ⟨retI (idxV_neverP (fun j h => HhP.out j (by omega))), m.below⟩

/-- All prunes can be told. -/
theorem containsP_any (l : List Int) (ao : Option Addr) (n c : Nat) (w : World) (hx : IntsAt w ao l) (hn : l.length = n * 3) (hl : n ≤ 1048576) :
    Calls Tryd.prog 51 #[.slice ao n c, .func (.func 52) #[] #[]] w fun e w' => e = .returned (.bool !decide (∀ k, k < n → prOk l k = true)) ∧ Below w.heap.size w w' := by
  have h := indexFuncP_any l 52 (fun j => !prOk l j) ao n c w hx hn hl (fun _ _ => rfl) (fun m j _ => prBad_any _ _ _ _)
  have hv : (decide ((0 : Int) ≤ idxV (firstB (fun j => !prOk l j) n))) = !decide (∀ k, k < n → prOk l k = true) := by
    rcases hf : firstB (fun j => !prOk l j) n with _ | i
    · have h2 : ∀ k, k < n → prOk l k = true := fun k hk => by
        unfold firstB at hf
        rw [List.find?_eq_none] at hf
        have := hf k (by simpa using hk)
        simpa using this
      rw [decide_eq_true h2]; rfl
    · unfold firstB at hf
      rw [List.find?_range_eq_some] at hf
      obtain ⟨h1, h2, -⟩ := hf
      have h3 : ¬∀ k, k < n → prOk l k = true := fun h4 => by rw [h4 i (by simpa using h2)] at h1; cases h1
      rw [decide_eq_false h3]
      exact decide_eq_true (show (0 : Int) ≤ (i : Int) by omega)
  generalize idxV (firstB (fun j => !prOk l j) n) = I at *
  go_enter Tryd.func51, Tryd.ntmps51
  go_wp2_with fail
  refine h.mono ?_
  rintro e w2 ⟨rfl, hB⟩
  go_wp2_with fail
  go_ret
  exact ⟨by rw [← hv]; rfl, hB⟩

end Go.Proofs.YtgklgheaojoimaaDoor
