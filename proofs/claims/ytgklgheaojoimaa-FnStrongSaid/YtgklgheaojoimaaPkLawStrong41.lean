/-
  SimpleOrder of the reference. For at most 2^20 rows.
  A search of lists by depth finds what there is; different numbers below k are at most k. No program.
-/
import Derived.Test.YtgklgheaojoimaaPkLawStrong40
import Derived.Test.YtgklgheaojoimaaPkLawStrong07
import Derived.Test.YtgklgheaojoimaaPkLawStrong10
import Derived.Test.YtgklgheaojoimaaPkLawStrong21
import Derived.Deep.RegionHeld3
namespace Go.Proofs.Ytgklgheaojoimaa
open Go.RowKit

/-- The least simple vertex of what is left. -/
def leastB (rs : List Int) (S : Nat) : Option Nat := firstB (fun v => simpleB rs.length rs v S) rs.length
/-- The simple vertices, taken away one by one. -/
def ordF (rs : List Int) : Nat → Nat → List Int → Option (List Int)
  | 0, _, out => some out
  | f + 1, S, out => if S = 0 then some out else match leastB rs S with | none => none | some v => ordF rs f (S - 2 ^ v) (out ++ [(v : Int)])
def ordV (n : Int) (rs : List Int) : Option (List Int) := if isGraphB n rs = true then ordF rs (2 ^ rs.length - 1) (2 ^ rs.length - 1) [] else none
theorem ordV_no {n : Int} {rs : List Int} (h : isGraphB n rs = false) : ordV n rs = none := by unfold ordV; rw [h]; rfl
theorem ordV_of {n : Int} {rs : List Int} (h : isGraphB n rs = true) : ordV n rs = ordF rs (2 ^ rs.length - 1) (2 ^ rs.length - 1) [] := by unfold ordV; rw [if_pos h]
theorem ordF_zero {rs : List Int} (f : Nat) (out : List Int) : ordF rs f 0 out = some out := by cases f <;> rfl
theorem ordF_none {rs : List Int} {f S : Nat} {out : List Int} (hS : S ≤ f) (h0 : 0 < S) (h : leastB rs S = none) : ordF rs f S out = none := by
  obtain ⟨f, rfl⟩ : ∃ f', f = f' + 1 := ⟨f - 1, by omega⟩
  show (if S = 0 then some out else _) = none
  rw [if_neg (by omega), h]
theorem ordF_some {rs : List Int} {f S v : Nat} {out : List Int} (hS : S ≤ f) (h0 : 0 < S) (h : leastB rs S = some v) : ordF rs f S out = ordF rs (f - 1) (S - 2 ^ v) (out ++ [(v : Int)]) := by
  obtain ⟨f, rfl⟩ : ∃ f', f = f' + 1 := ⟨f - 1, by omega⟩
  show (if S = 0 then some out else _) = _
  rw [if_neg (by omega), h]; rfl
theorem ordF_len {rs : List Int} : ∀ (f S : Nat) (out : List Int), ((ordF rs f S out).getD []).length ≤ out.length + f := by
  intro f
  induction f with
  | zero => intro S out; simp [ordF]
  | succ f ih =>
    intro S out
    show ((if S = 0 then some out else (match leastB rs S with | none => none | some v => ordF rs f (S - 2 ^ v) (out ++ [(v : Int)]))).getD []).length ≤ _
    split
    · simp
    · split
      · simp
      · rename_i v _
        have := ih (S - 2 ^ v) (out ++ [(v : Int)])
        simp at this; omega
theorem ordV_len (n : Int) (rs : List Int) : ((ordV n rs).getD []).length ≤ 1048576 := by
  unfold ordV; split
  · rename_i h
    have := ordF_len (rs := rs) (2 ^ rs.length - 1) (2 ^ rs.length - 1) []
    have := (VG.of h).2.pow.1
    simp at *; omega
  · simp
/-- A simple vertex is left. -/
theorem simple_left {rs : List Int} {S v : Nat} (h : simpleB rs.length rs v S = true) : S.testBit v = true ∧ 2 ^ v ≤ S := by
  unfold simpleB at h
  rw [Int.toNat_natCast, Int.toNat_natCast, hasN_nat] at h
  simp only [Bool.and_eq_true] at h
  exact ⟨h.2.2.1, Nat.ge_two_pow_of_testBit h.2.2.1⟩
theorem leastB_left {rs : List Int} {S v : Nat} (h : leastB rs S = some v) : v < rs.length ∧ S.testBit v = true ∧ 2 ^ v ≤ S ∧ 0 < 2 ^ v := by
  unfold leastB firstB at h
  have h1 := List.find?_some h
  have h2 := List.mem_of_find?_eq_some h
  exact ⟨by simpa using h2, (simple_left h1).1, (simple_left h1).2, Nat.two_pow_pos _⟩
/-- The least so far, from the top down to j. -/
def DownTo (p : Nat → Bool) (n j : Nat) (b : Int) : Prop := (b = -1 ∧ ∀ v, j ≤ v → v < n → p v = false) ∨ ∃ k : Nat, b = k ∧ j ≤ k ∧ k < n ∧ p k = true ∧ ∀ v, j ≤ v → v < k → p v = false
theorem DownTo.no {p : Nat → Bool} {n j : Nat} {b : Int} (h : DownTo p n (j + 1) b) (hp : p j = false) : DownTo p n j b := by
  have e : ∀ v, j ≤ v → v = j ∨ j + 1 ≤ v := fun v h => by omega
  rcases h with ⟨h1, h2⟩ | ⟨k, h1, h2, h3, h4, h5⟩
  · exact .inl ⟨h1, fun v a b => (e v a).elim (fun q => q ▸ hp) fun q => h2 v q b⟩
  · exact .inr ⟨k, h1, by omega, h3, h4, fun v a b => (e v a).elim (fun q => q ▸ hp) fun q => h5 v q b⟩
theorem DownTo.yes {p : Nat → Bool} {n j : Nat} (hj : j < n) (hp : p j = true) : DownTo p n j j := .inr ⟨j, rfl, Nat.le_refl _, hj, hp, fun v a b => by omega⟩
theorem DownTo.start (p : Nat → Bool) (n : Nat) : DownTo p n n (-1) := .inl ⟨rfl, fun v a b => by omega⟩
theorem DownTo.least {rs : List Int} {S : Nat} {b : Int} (h : DownTo (fun v => simpleB rs.length rs v S) rs.length 0 b) : (b = -1 ∧ leastB rs S = none) ∨ ∃ k : Nat, b = k ∧ leastB rs S = some k := by
  rcases h with ⟨h1, h2⟩ | ⟨k, h1, h2, h3, h4, h5⟩
  · exact .inl ⟨h1, firstB_none fun j hj => h2 j (by omega) hj⟩
  · exact .inr ⟨k, h1, firstB_hit h3 (fun j hj => h5 j (by omega) hj) h4⟩
theorem DownTo.lo {p : Nat → Bool} {n j : Nat} {b : Int} (h : DownTo p n j b) : -1 ≤ b ∧ b < n + 1 := by
  rcases h with ⟨h1, -⟩ | ⟨k, h1, -, h3, -⟩ <;> omega

set_option maxRecDepth 100000 in
set_option maxHeartbeats 2000000 in
theorem specOrderO_any (n : Int) (rs : List Int) (ro : Option Addr) (rc : Nat) (w : World) (hr : IntsAt w ro rs) (hrl : rs.length ≤ 1048576) :
    Calls Try.prog 32 #[.agg #[.int .i64 n, .slice ro rs.length rc]] w (RetO w (ordV n rs)) := by
  go_enter Try.func32, Try.ntmps32
  go_wp2_with fail
  generalize hW : w.alloc _ = W1
  obtain ⟨hB, -, k0⟩ := alloc1 hW
  replace hr := hr.below hB
  have hb0 := k0.lt
  have hc0 := k0.cell 0
  have hc1 := k0.cell 1
  simp at hc0 hc1
  clear hW k0
  have HhB := Lib.hid hB
  clear hB
  generalize hW2 : W1.alloc _ = W2
  obtain ⟨hB2, -, -⟩ := alloc1 hW2
  replace hr := hr.below hB2
  replace hc0 := (hB2.cell (p := ⟨w.heap.size, 0, none⟩) hb0).trans hc0
  replace hc1 := (hB2.cell (p := ⟨w.heap.size, 1, none⟩) hb0).trans hc1
  replace hb0 := Nat.lt_of_lt_of_le hb0 hB2.size
  replace HhB := Lib.hid (below_more' HhB.out hB2)
  clear hB2 hW2
  have hO := OwnE.empty W2 W2.heap.size ⟨w.heap.size + 1, 0, none⟩
  generalize (⟨w.heap.size + 1, 0, none⟩ : Addr) = na at *
  obtain ⟨m, hm0⟩ : ∃ m : Later W2, m.w = W2 := ⟨Later.refl _, rfl⟩
  refine (fun h => hm0 ▸ h) ?_
  clear hm0
  cases hv : isGraphB n rs
  · have HE := Lib.hid (ordV_no hv)
    go_wp2_with (first | (go_at_call 14; refine (Calls.later m (specIsGraph_any _ _ _ _ _ (hr.later m) hrl)).mono ?_; rintro e w' ⟨rfl, m, rfl⟩))
    go_ret2
    exact ⟨_, _, by rw [HE.out]; rfl, below_later HhB.out m, by rw [HE.out]; exact OwnE.empty _ _ _⟩
  · have HE := Lib.hid (ordV_of hv)
    have Hhv := Lib.hid hv
    obtain ⟨rfl, g⟩ := VG.of hv
    have hg1 := g.pos
    have hg2 := g.le
    obtain ⟨hp1, hp2⟩ := g.pow
    have hp4 : 2 ^ rs.length - 1 < 2 ^ rs.length := by omega
    generalize hFull : 2 ^ rs.length - 1 = full at *
    have hp3 : wrap64 (pwN rs.length - 1) = (full : Int) := by
      rw [pwN_small _ (by omega), show ((2 ^ rs.length : Nat) : Int) - 1 = (full : Int) by omega]
      simp only [wrap64]
      omega
    have HhO := Lib.hid hO
    clear hO
    have Hhp4 := Lib.hid hp4
    clear hp4
    go_wp2_with (first | (go_at_call 14; refine (Calls.later m (specIsGraph_any _ _ _ _ _ (hr.later m) hrl)).mono ?_; rintro e w' ⟨rfl, m, rfl⟩))
    simp only [hp3]
    clear hp3
    go_loopw [4, 5] (fun o l wr => ∃ m : Later W2, wr = m.w ∧ ∃ (f S : Nat) (xs : List Int) (ao : Option Addr) (cap : Nat), S ≤ f ∧ S < 2 ^ rs.length ∧ xs.length + f ≤ 128 ∧ l = .int .i64 S ∧ o = .slice ao xs.length cap ∧ OwnE m.w W2.heap.size ao cap xs ∧ ordF rs full full [] = ordF rs f S xs) (fun _ l _ => (intOf l).toNat)
    case atStart => exact ⟨m, rfl, full, full, [], _, _, Nat.le_refl _, Hhp4.out, by simp; omega, rfl, rfl, HhO.out.later m, rfl⟩
    case round =>
      obtain ⟨m, rfl, f, S, xs, ao, cap, hSf, hS, hlen, rfl, rfl, hO, hV⟩ := hrel
      by_cases h0 : 0 < S
      · have d0 : decide (0 < (S : Int)) = true := decide_eq_true (by omega)
        have HW : ∀ m2 : Later m.w, ∃ m' : Later W2, m'.w = m2.w := fun m2 => ⟨m.on m2.below, rfl⟩
        have hms := m.size
        have hI := isSetB_mk Hhv.out hS
        have HhO := Lib.hid hO
        clear hO
        have HhV := Lib.hid hV
        clear hV
        have HhSf := Lib.hid hSf
        clear hSf
        have Hhlen := Lib.hid hlen
        clear hlen
        have HHW := Lib.hid HW
        clear HW
        replace hr := hr.later m
        replace hc0 : m.w.cell? _ = _ := (m.cell _ _ hb0).trans hc0
        replace hc1 : m.w.cell? _ = _ := (m.cell _ _ hb0).trans hc1
        replace hb0 := Nat.lt_of_lt_of_le hb0 m.size
        replace HhB := Lib.hid (below_later HhB.out m)
        generalize m.w = W3 at *
        clear m
        obtain ⟨m, hm0⟩ : ∃ m : Later W3, m.w = W3 := ⟨Later.refl _, rfl⟩
        refine (fun h => hm0 ▸ h) ?_
        clear hm0
        go_wp2_with fail
        go_loopw [6, 7] (fun b i wr => (∃ m : Later W3, wr = m.w) ∧ ∃ (j : Nat) (bi : Int), j ≤ rs.length ∧ i = .int .i64 ((j : Int) - 1) ∧ b = .int .i64 bi ∧ DownTo (fun v => simpleB rs.length rs v S) rs.length j bi) (fun _ i _ => (intOf i + 1).toNat)
        case atStart => exact ⟨⟨m, rfl⟩, rs.length, -1, Nat.le_refl _, by go_num, rfl, DownTo.start _ _⟩
        case round =>
          obtain ⟨⟨m, rfl⟩, j, bi, hj, rfl, rfl, hD⟩ := hrel
          have hb1 := hD.lo
          rcases j with _ | j
          · rcases hD.least with ⟨rfl, hL⟩ | ⟨k, rfl, hL⟩
            · have HE2 := Lib.hid (HE.out.trans (HhV.out.trans (ordF_none HhSf.out h0 hL)))
              clear hD hL
              go_wp2_with fail
              go_ret2
              exact ⟨_, _, by rw [HE2.out]; rfl, (below_later HhB.out m).alloc (below_later HhB.out m).size _, by rw [HE2.out]; exact OwnE.empty _ _ _⟩
            · obtain ⟨hk1, hk2, hk3, hk4⟩ := leastB_left hL
              have HN := Lib.hid (HhV.out.trans (ordF_some HhSf.out h0 hL))
              have hl7 : xs.length ≤ 1048576 := by have := Hhlen.out; omega
              have hms3 := m.size
              have hq : wrap64 ((S : Int) - pwN k) = ((S - 2 ^ k : Nat) : Int) := by
                rw [pwN_small _ (by omega), show (S : Int) - ((2 ^ k : Nat) : Int) = ((S - 2 ^ k : Nat) : Int) by omega]
                simp only [wrap64]
                omega
              have hS2 : S - 2 ^ k < S := by omega
              generalize S - 2 ^ k = S2 at *
              clear hD hL hk2
              go_wp2_with (at_builtin; go_must (refine wpList_append_e rfl _ _ rfl W2.heap.size cap ao xs (k : Int) rfl (HhO.out.later m) rfl (by omega) (by omega) ?_); intro ao' cap' w1 hown1 hB1)
              go_roundw
              case rel =>
                obtain ⟨m', e⟩ := HHW.out m
                exact ⟨⟨w1, m'.below.trans (e.symm ▸ hB1)⟩, rfl, f - 1, S2, xs ++ [(k : Int)], ao', cap', by have := HhSf.out; omega, by omega, by have := Hhlen.out; have := HhSf.out; simp; omega, by rw [hq], by simp, hown1, HN.out⟩
              case measure => simp [intOf]; omega
          · have hjl : j < rs.length := by omega
            have HNo := Lib.hid (fun h => DownTo.no hD h)
            have HYes := Lib.hid (fun h => DownTo.yes (p := fun v => simpleB rs.length rs v S) hjl h)
            have hq : ((j + 1 : Nat) : Int) - 1 = (j : Int) := by omega
            have hq2 : IntKind.i64.wrap ((j : Int) - 1) = (j : Int) - 1 := IntKind_i64_in _ (by omega) (by omega)
            simp only [hq]
            clear hD
            cases hb : simpleB rs.length rs j S
            · go_wp2_with (first | (go_at_call 45; refine (Calls.later m (specIsSimple_any _ _ _ _ _ _ _ (hr.later m) hrl)).mono ?_; rintro e w' ⟨rfl, m, rfl⟩))
              go_roundw
              case rel => exact ⟨⟨m, rfl⟩, j, bi, by omega, by go_num, rfl, HNo.out hb⟩
              case measure => simp [intOf]
            · go_wp2_with (first | (go_at_call 45; refine (Calls.later m (specIsSimple_any _ _ _ _ _ _ _ (hr.later m) hrl)).mono ?_; rintro e w' ⟨rfl, m, rfl⟩))
              go_roundw
              case rel => exact ⟨⟨m, rfl⟩, j, (j : Int), by omega, by go_num, rfl, HYes.out hb⟩
              case measure => simp [intOf]
      · obtain rfl : S = 0 := by omega
        have HE2 := Lib.hid (HE.out.trans (hV.trans (ordF_zero f xs)))
        have hX := Lib.hid (hO.mono' (base' := w.heap.size) HhB.out.size)
        clear hV hO
        go_wp2_with fail
        go_ret2
        exact ⟨ao, cap, by rw [HE2.out]; rfl, below_later HhB.out m, by rw [HE2.out]; exact hX.out⟩
theorem specOrder_any (n : Int) (rs : List Int) (ro : Option Addr) (rc : Nat) (w : World) (hr : IntsAt w ro rs) (hrl : rs.length ≤ 1048576) :
    Calls Try.prog 32 #[.agg #[.int .i64 n, .slice ro rs.length rc]] w (RetI w (ordV n rs)) :=
  (specOrderO_any n rs ro rc w hr hrl).mono fun _ _ ⟨ao, cap, h1, h2, h3⟩ => ⟨ao, cap, h1, h2, h3.ints⟩

end Go.Proofs.Ytgklgheaojoimaa

namespace Go.Proofs.Ytgklgheaojoimaa
open Go.RowKit

/-! ### A search finds what there is -/
theorem preF_none {may q : List Int → Bool} {N f : Nat} {l : List Int} : ∀ j, (preF (flStep (flRun (S := Unit) (fun _ l => ((), q l)) may N f) may l) ((), none) j).1.2 = none →
    preF (flStep (flRun (S := Unit) (fun _ l => ((), q l)) may N f) may l) ((), none) j = (((), none), true) ∧ ∀ v, v < j → (flSub (flRun (S := Unit) (fun _ l => ((), q l)) may N f) may l v ((), none)).2 = none
  | 0, _ => ⟨rfl, fun v h => by omega⟩
  | j + 1, h => by
    by_cases hs : (preF (flStep (flRun (S := Unit) (fun _ l => ((), q l)) may N f) may l) ((), none) j).2 = true
    · rw [preF, if_pos hs] at h
      have h0 : (preF (flStep (flRun (S := Unit) (fun _ l => ((), q l)) may N f) may l) ((), none) j).1.2 = none := by
        cases j with
        | zero => rfl
        | succ j =>
          rw [preF] at hs ⊢
          split
          · rename_i h2
            rw [if_pos h2] at hs
            unfold flStep at hs ⊢
            simpa using hs
          · rename_i h2
            rw [if_neg h2] at hs
            exact absurd hs h2
      obtain ⟨e, hv⟩ := preF_none j h0
      rw [e] at h
      have h3 : (flSub (flRun (S := Unit) (fun _ l => ((), q l)) may N f) may l j ((), none)).2 = none := h
      refine ⟨?_, fun v hvj => ?_⟩
      · rw [preF_go e]
        unfold flStep
        rw [unit_eq h3]; rfl
      · rcases Nat.lt_succ_iff_lt_or_eq.1 hvj with h4 | rfl
        · exact hv v h4
        · exact h3
    · rw [preF, if_neg hs] at h
      obtain ⟨e, -⟩ := preF_none j h
      rw [e] at hs
      exact absurd rfl hs
theorem dfs_some {may q : List Int → Bool} {N n : Nat} (h : Nec may q n) : ∀ (t : List Int) (l : List Int), (l ++ t).length = n → q (l ++ t) = true → (∀ y ∈ t, ∃ v : Nat, v < N ∧ y = (v : Int)) → (dfs may q N t.length l).isSome = true
  | [], l, _, hq, _ => by
    rw [List.append_nil] at hq
    show (if q l = true then some l else none).isSome = true
    rw [if_pos hq]; rfl
  | y :: t, l, hl, hq, hy => by
    obtain ⟨v, hv, rfl⟩ := hy y (by simp)
    have e : l ++ (v : Int) :: t = (l ++ [(v : Int)]) ++ t := by simp
    rw [e] at hl hq
    obtain ⟨h1, h2⟩ := h l v t hl hq
    have ih := dfs_some h t (l ++ [(v : Int)]) hl hq fun y h => hy y (List.mem_cons_of_mem _ h)
    cases hd : dfs may q N (t.length + 1) l with
    | some x => rfl
    | none =>
      exfalso
      have := (preF_none N hd).2 v hv
      unfold flSub at this
      rw [if_pos ⟨h1, h2⟩] at this
      have e2 : dfs may q N t.length (l ++ [(v : Int)]) = none := this
      rw [e2] at ih; cases ih

theorem nodup_lt7 : ∀ (k : Nat) (l : List Nat), l.Nodup → (∀ a, a ∈ l → a < k) → l.length ≤ k
  | 0, l, _, h => by
    cases l with
    | nil => exact Nat.le_refl _
    | cons a l => exact absurd (h a (by simp)) (by omega)
  | k + 1, l, hn, h => by
    by_cases hk : k ∈ l
    · have h1 := nodup_lt7 k (l.erase k) (hn.erase k) fun a ha => by
        have h2 := h a (List.mem_of_mem_erase ha)
        have h3 : a ≠ k := by rintro rfl; exact hn.not_mem_erase ha
        omega
      rw [List.length_erase_of_mem hk] at h1
      omega
    · have h1 := nodup_lt7 k l hn fun a ha => by
        have h2 := h a ha
        have h3 : a ≠ k := by rintro rfl; exact hk ha
        omega
      omega

end Go.Proofs.Ytgklgheaojoimaa
