/-
  A search of lists by depth finds what there is; different numbers below k are at most k. No program.
-/
import Derived.Test.YtgklgheaojoimaaFirstList
namespace Go.Proofs.Ytgklgheaojoimaa
open Go.RowKit

/-! ### A search finds what there is -/
theorem preF_none {may q : List Int → Bool} {N f : Nat} {l : List Int} : ∀ j, (preF (flStep (flRun (S := Unit) (fun _ l => ((), q l)) may N f) may l) ((), none) j).1.2 = none →
    preF (flStep (flRun (S := Unit) (fun _ l => ((), q l)) may N f) may l) ((), none) j = (((), none), true) ∧ ∀ v, v < j → (flSub (flRun (S := Unit) (fun _ l => ((), q l)) may N f) may l v ((), none)).2 = none
  | 0, _ => ⟨rfl, fun v h => by omega⟩
  | j + 1, h => by
    by_cases hs : (preF (flStep (flRun (S := Unit) (fun _ l => ((), q l)) may N f) may l) ((), none) j).2 = true
    · rw [preF, if_pos hs] at h
      have h0 : (preF (flStep (flRun (S := Unit) (fun _ l => ((), q l)) may N f) may l) ((), none) j).1.2 = none := by
        cases j with
        | zero => rfl
        | succ j =>
          rw [preF] at hs ⊢
          split
          · rename_i h2
            rw [if_pos h2] at hs
            unfold flStep at hs ⊢
            simpa using hs
          · rename_i h2
            rw [if_neg h2] at hs
            exact absurd hs h2
      obtain ⟨e, hv⟩ := preF_none j h0
      rw [e] at h
      have h3 : (flSub (flRun (S := Unit) (fun _ l => ((), q l)) may N f) may l j ((), none)).2 = none := h
      refine ⟨?_, fun v hvj => ?_⟩
      · rw [preF_go e]
        unfold flStep
        rw [unit_eq h3]; rfl
      · rcases Nat.lt_succ_iff_lt_or_eq.1 hvj with h4 | rfl
        · exact hv v h4
        · exact h3
    · rw [preF, if_neg hs] at h
      obtain ⟨e, -⟩ := preF_none j h
      rw [e] at hs
      exact absurd rfl hs
theorem dfs_some {may q : List Int → Bool} {N n : Nat} (h : Nec may q n) : ∀ (t : List Int) (l : List Int), (l ++ t).length = n → q (l ++ t) = true → (∀ y ∈ t, ∃ v : Nat, v < N ∧ y = (v : Int)) → (dfs may q N t.length l).isSome = true
  | [], l, _, hq, _ => by
    rw [List.append_nil] at hq
    show (if q l = true then some l else none).isSome = true
    rw [if_pos hq]; rfl
  | y :: t, l, hl, hq, hy => by
    obtain ⟨v, hv, rfl⟩ := hy y (by simp)
    have e : l ++ (v : Int) :: t = (l ++ [(v : Int)]) ++ t := by simp
    rw [e] at hl hq
    obtain ⟨h1, h2⟩ := h l v t hl hq
    have ih := dfs_some h t (l ++ [(v : Int)]) hl hq fun y h => hy y (List.mem_cons_of_mem _ h)
    cases hd : dfs may q N (t.length + 1) l with
    | some x => rfl
    | none =>
      exfalso
      have := (preF_none N hd).2 v hv
      unfold flSub at this
      rw [if_pos ⟨h1, h2⟩] at this
      have e2 : dfs may q N t.length (l ++ [(v : Int)]) = none := this
      rw [e2] at ih; cases ih

theorem nodup_lt7 : ∀ (k : Nat) (l : List Nat), l.Nodup → (∀ a, a ∈ l → a < k) → l.length ≤ k
  | 0, l, _, h => by
    cases l with
    | nil => exact Nat.le_refl _
    | cons a l => exact absurd (h a (by simp)) (by omega)
  | k + 1, l, hn, h => by
    by_cases hk : k ∈ l
    · have h1 := nodup_lt7 k (l.erase k) (hn.erase k) fun a ha => by
        have h2 := h a (List.mem_of_mem_erase ha)
        have h3 : a ≠ k := by rintro rfl; exact hn.not_mem_erase ha
        omega
      rw [List.length_erase_of_mem hk] at h1
      omega
    · have h1 := nodup_lt7 k l hn fun a ha => by
        have h2 := h a ha
        have h3 : a ≠ k := by rintro rfl; exact hk ha
        omega
      omega

end Go.Proofs.Ytgklgheaojoimaa
