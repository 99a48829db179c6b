/-
  The search for holes of the reference, and what both sides find. For at most 2^20 rows.
  FindHole on both sides. For at most 2^20 rows.
  Suns: the pattern, IsSun of the reference. For at most 2^20 rows and list elements.
  FindSun of the program, and what both sides find. For at most 2^20 rows.
  FindSun of the reference. For at most 2^20 rows.
  StrongObstacle on both sides. For at most 2^20 rows.
  A search of lists by depth finds what there is; different numbers below k are at most k. No program.
-/
import Derived.Test.YtfkehmpckhmkbaaPkLawWidths30
import Derived.Test.YtfkehmpckhmkbaaPkLawWidths13
import Derived.Test.YtfkehmpckhmkbaaPkLawWidths25
import Derived.Test.YtfkehmpckhmkbaaPkLawWidths27
import Derived.Deep.RegionHeld3
import Derived.Deep.CutRange
namespace Go.Proofs.Ytfkehmpckhmkbaa
open Go.RowKit

theorem verts_head {n : Int} {rs a b : List Int} (h : vertsB n rs (a ++ b) = true) : vertsB n rs a = true := by
  rw [vertsB_true] at h ⊢
  refine ⟨h.1, fun j hj => ?_⟩
  obtain ⟨h1, h2⟩ := h.2 j (by simp; omega)
  rw [gi_left hj] at h1
  refine ⟨h1, fun i hi => ?_⟩
  have := h2 i hi
  rwa [gi_left hj, gi_left (by omega)] at this
theorem verts_new {n : Int} {rs l t : List Int} {v : Nat} (h : vertsB n rs (l ++ [(v : Int)] ++ t) = true) : inB l (v : Int) = false := by
  rw [← Bool.not_eq_true, inB_true]
  rintro ⟨j, hj, e⟩
  rw [vertsB_true] at h
  have := (h.2 l.length (by simp)).2 j hj
  rw [gi_mid, List.append_assoc, gi_left hj] at this
  exact this e
theorem joinB_iff {n : Int} {rs l : List Int} {pat : Nat → Nat → Bool} : joinB n rs l pat = true ↔ vertsB n rs l = true ∧ ∀ i, i < l.length → ∀ j, j < i → joinedAt rs l pat i j = true := by
  unfold joinB; rw [Bool.and_eq_true, decide_eq_true_eq]
theorem holeB_join {n : Int} {rs l : List Int} (h : holeB n rs l = true) : joinB n rs l (holeP l.length) = true := by unfold holeB at h; rw [Bool.and_eq_true] at h; exact h.2
/-- A proper beginning of a hole is an induced path. -/
theorem hole_path {n : Int} {rs x t : List Int} (h : holeB n rs (x ++ t) = true) (h0 : 0 < x.length) (ht : 0 < t.length) : pathB n rs x = true := by
  have hj := joinB_iff.1 (holeB_join h)
  unfold pathB
  rw [decide_eq_true h0, Bool.true_and, joinB_iff]
  refine ⟨verts_head hj.1, fun i hi j hji => ?_⟩
  have e := hj.2 i (by simp; omega) j hji
  unfold joinedAt at e ⊢
  rw [gi_left (by omega), gi_left (by omega)] at e
  have hp : holeP (x ++ t).length j i = pathP j i := by
    unfold holeP pathP
    rw [decide_eq_false (p := i = (x ++ t).length - 1) (by simp; omega), Bool.and_false, Bool.or_false]
  rw [hp] at e
  exact e
theorem path_verts {n : Int} {rs l : List Int} (h : pathB n rs l = true) : vertsB n rs l = true := by unfold pathB at h; rw [Bool.and_eq_true] at h; exact (joinB_iff.1 h.2).1

/-! ### The searches -/
def mayS (rs : List Int) (k : Nat) (x : List Int) : Bool := pathB rs.length rs x || (decide (x.length = k) && holeB rs.length rs x)
def mayI (rs : List Int) (k : Nat) (x : List Int) : Bool := decide (x.length = k) || pathB rs.length rs x
theorem nec_mayS (rs : List Int) (k : Nat) : Nec (mayS rs k) (fun l => holeB rs.length rs l) k := fun l v t hk h => by
  refine ⟨verts_new (joinB_iff.1 (holeB_join h)).1, ?_⟩
  unfold mayS
  by_cases ht : 0 < t.length
  · rw [hole_path h (by simp) ht]; rfl
  · obtain rfl : t = [] := List.eq_nil_of_length_eq_zero (by omega)
    rw [List.append_nil] at h hk
    have h' : holeB rs.length rs (l ++ [(v : Int)]) = true := h
    rw [decide_eq_true hk, h', Bool.true_and, Bool.or_true]
theorem nec_mayI (rs : List Int) (k : Nat) : Nec (mayI rs k) (fun l => holeB rs.length rs l) k := fun l v t hk h => by
  refine ⟨verts_new (joinB_iff.1 (holeB_join h)).1, ?_⟩
  unfold mayI
  by_cases ht : 0 < t.length
  · rw [hole_path h (by simp) ht, Bool.or_true]
  · obtain rfl : t = [] := List.eq_nil_of_length_eq_zero (by omega)
    rw [List.append_nil] at hk
    rw [decide_eq_true hk]; rfl
theorem mayS_new {rs l : List Int} {k v : Nat} (h : mayS rs k (l ++ [(v : Int)]) = true) : inB l (v : Int) = false := by
  have hv : vertsB rs.length rs (l ++ [(v : Int)]) = true := by
    unfold mayS at h
    rw [Bool.or_eq_true, Bool.and_eq_true] at h
    rcases h with h | h
    · exact path_verts h
    · exact (joinB_iff.1 (holeB_join h.2)).1
  have := verts_new (t := []) (l := l) (v := v) (by rw [List.append_nil]; exact hv)
  exact this
/-- The first hole of k vertices. -/
def holeAt (rs : List Int) (k : Nat) : Option (List Int) := dfs (mayI rs k) (fun l => holeB rs.length rs l) rs.length k []
theorem holeAt_spec (rs : List Int) (k : Nat) : holeAt rs k = dfs (mayS rs k) (fun l => holeB rs.length rs l) rs.length k [] := dfs_prune (n := k) rs.length (nec_mayI rs k) (nec_mayS rs k) k [] (by simp)


end Go.Proofs.Ytfkehmpckhmkbaa

namespace Go.Proofs.Ytfkehmpckhmkbaa
open Go.RowKit

/-- What FindHole says. -/
def holeV (n : Int) (rs : List Int) : Option (List Int) := if isGraphB n rs = true then (match firstB (fun j => decide (4 + j ≤ rs.length) && (holeAt rs (4 + j)).isSome) 4 with | some j => holeAt rs (4 + j) | none => none) else none
theorem holeV_no {n : Int} {rs : List Int} (h : isGraphB n rs = false) : holeV n rs = none := by unfold holeV; rw [h]; rfl
theorem holeV_hit {rs : List Int} {k : Nat} {x : List Int} (hv : isGraphB rs.length rs = true) (hk : 4 + k ≤ rs.length) (h : ∀ j, j < k → (holeAt rs (4 + j)).isSome = false) (hp : holeAt rs (4 + k) = some x) : holeV rs.length rs = some x := by
  have := (VG.of hv).2.le
  unfold holeV
  rw [if_pos hv, firstB_hit (k := k) (by omega) (fun j hj => by rw [h j hj, Bool.and_false]) (by rw [hp, decide_eq_true hk]; rfl)]
  exact hp
theorem holeV_none {rs : List Int} {k : Nat} (hv : isGraphB rs.length rs = true) (hk : ¬4 + k ≤ rs.length) (h : ∀ j, j < k → (holeAt rs (4 + j)).isSome = false) : holeV rs.length rs = none := by
  unfold holeV
  rw [if_pos hv, firstB_none]
  intro j hj
  by_cases e : j < k
  · rw [h j e, Bool.and_false]
  · rw [decide_eq_false (by omega)]; rfl
theorem holeV_len (n : Int) (rs : List Int) : ((holeV n rs).getD []).length ≤ 1048576 := by
  unfold holeV; split
  · split
    · rename_i j h
      have hj : j < 4 := by
        unfold firstB at h
        have := List.mem_of_find?_eq_some h
        simpa using this
      exact Nat.le_trans (dfs_len (n := 4 + j) (by simp)) (by omega)
    · simp
  · simp


/-- The number in the variable that p points to. -/
def ptrH (p : Value) (w : World) : Nat := match p with | .pointer (some a) => (match w.cell? a with | some v => (intOf v).toNat | none => 0) | _ => 0
theorem ptrH_blk {w : World} {b x : Nat} {T : TypeId} (h : Blk w b #[.int .i64 x] T) : ptrH (.pointer (some ⟨b, 0, none⟩)) w = x := by
  have := h.cell 0
  simp at this
  simp [ptrH, this, intOf]


end Go.Proofs.Ytfkehmpckhmkbaa

namespace Go.Proofs.Ytfkehmpckhmkbaa
open Go.RowKit

/-! ### IsSun -/
def sunP (j i : Nat) : Bool := decide (i < 3) || (decide (j < 3) && (decide (i = 3 ∧ j ≠ 2) || decide (i = 4 ∧ j ≠ 0) || decide (i = 5 ∧ j ≠ 1)))
def sunB (n : Int) (rs l : List Int) : Bool := decide (l.length = 6) && joinB n rs l sunP


/-- How the reference says the pattern. -/
theorem sunP_spec {j i : Nat} (hj : j < i) (hi : i < 6) :
    sunP j i = (decide (i < 3) || (decide (j < 3) && (((j : Int) == (i : Int) - 3) || ((j : Int) == ((i : Int) - 2) % 3)))) := by
  have : ∀ i : Fin 6, ∀ j : Fin 6, j.val < i.val → sunP j i = (decide (i.val < 3) || (decide (j.val < 3) && (((j.val : Int) == (i.val : Int) - 3) || ((j.val : Int) == ((i.val : Int) - 2) % 3)))) := by decide
  exact this ⟨i, hi⟩ ⟨j, by omega⟩ hj


end Go.Proofs.Ytfkehmpckhmkbaa

namespace Go.Proofs.Ytfkehmpckhmkbaa
open Go.RowKit

/-! ### Beginnings of lists -/
theorem vertsB_head {n : Int} {rs a b : List Int} (h : vertsB n rs (a ++ b) = true) : vertsB n rs a = true := by
  rw [vertsB_true] at h ⊢
  refine ⟨h.1, fun j hj => ?_⟩
  obtain ⟨h1, h2⟩ := h.2 j (by simp; omega)
  rw [gi_left hj] at h1
  refine ⟨h1, fun i hi => ?_⟩
  have := h2 i hi
  rwa [gi_left hj, gi_left (by omega)] at this
theorem vertsB_new {n : Int} {rs l t : List Int} {v : Nat} (h : vertsB n rs (l ++ [(v : Int)] ++ t) = true) : inB l (v : Int) = false := by
  rw [← Bool.not_eq_true, inB_true]
  rintro ⟨j, hj, e⟩
  rw [vertsB_true] at h
  have := (h.2 l.length (by simp)).2 j hj
  rw [gi_mid, List.append_assoc, gi_left hj] at this
  exact this e
theorem joinedAt_head {rs a b : List Int} {pat : Nat → Nat → Bool} {i j : Nat} (hi : i < a.length) (hj : j < a.length) : joinedAt rs (a ++ b) pat i j = joinedAt rs a pat i j := by
  unfold joinedAt; rw [gi_left hi, gi_left hj]
theorem joinB_true {n : Int} {rs l : List Int} {pat : Nat → Nat → Bool} : joinB n rs l pat = true ↔ vertsB n rs l = true ∧ ∀ i, i < l.length → ∀ j, j < i → joinedAt rs l pat i j = true := by
  unfold joinB; rw [Bool.and_eq_true, decide_eq_true_eq]
theorem joinB_head {n : Int} {rs a b : List Int} {pat : Nat → Nat → Bool} (h : joinB n rs (a ++ b) pat = true) : joinB n rs a pat = true := by
  rw [joinB_true] at h ⊢
  refine ⟨vertsB_head h.1, fun i hi j hj => ?_⟩
  rw [← joinedAt_head (b := b) hi (by omega)]
  exact h.2 i (by simp; omega) j hj

/-! ### Suns -/
/-- What the reference asks of a beginning: the first is joined to the second and the third. -/
def sunMay (rs x : List Int) : Bool := !((decide (x.length < 4) && decide (1 < x.length)) && !(gn rs (gi x 0).toNat).testBit (gi x (x.length - 1)).toNat)
theorem sunB_join {n : Int} {rs l : List Int} (h : sunB n rs l = true) : joinB n rs l sunP = true := by unfold sunB at h; rw [Bool.and_eq_true] at h; exact h.2
theorem nec_sun (n : Int) (rs : List Int) : Nec (fun l => joinB n rs l sunP) (fun l => sunB n rs l) 6 := fun _ _ _ _ h =>
  have hj := sunB_join h
  ⟨vertsB_new (joinB_true.1 hj).1, joinB_head hj⟩
theorem nec_sunMay (n : Int) (rs : List Int) : Nec (fun l => sunMay rs l) (fun l => sunB n rs l) 6 := fun l v _ _ h => by
  have hj := sunB_join h
  refine ⟨vertsB_new (joinB_true.1 hj).1, ?_⟩
  have hx : (l ++ [(v : Int)]).length = l.length + 1 := by simp
  show sunMay rs (l ++ [(v : Int)]) = true
  unfold sunMay
  rw [hx, show l.length + 1 - 1 = l.length from rfl]
  by_cases h1 : l.length + 1 < 4 ∧ 1 < l.length + 1
  · have e := (joinB_true.1 (joinB_head hj)).2 l.length (by simp) 0 (by omega)
    unfold joinedAt at e
    have hs : sunP 0 l.length = true := by unfold sunP; rw [decide_eq_true (by omega)]; rfl
    rw [hs, beq_iff_eq] at e
    rw [e]; simp
  · have : (decide (l.length + 1 < 4) && decide (1 < l.length + 1)) = false := by
      rw [← Bool.not_eq_true, Bool.and_eq_true, decide_eq_true_eq, decide_eq_true_eq]; exact h1
    rw [this]; rfl
/-- What FindSun says. -/
def sunV (n : Int) (rs : List Int) : Option (List Int) := if isGraphB n rs = true then dfs (fun l => joinB n rs l sunP) (fun l => sunB n rs l) rs.length 6 [] else none
theorem sunV_no {n : Int} {rs : List Int} (h : isGraphB n rs = false) : sunV n rs = none := by unfold sunV; rw [h]; rfl
theorem sunV_impl {rs : List Int} (h : isGraphB rs.length rs = true) : (flRun (S := Unit) (fun _ _ => ((), true)) (fun l => joinB rs.length rs l sunP) rs.length 6 () []).2 = sunV rs.length rs := by
  unfold sunV; rw [if_pos h, dfs_always (n := 6) (q := fun l => sunB rs.length rs l) rs.length (fun l v h1 _ h3 => by
    show sunB _ _ _ = true
    unfold sunB; rw [decide_eq_true h1]; exact h3) 6 [] rfl (fun h => by cases h)]
  rfl
theorem sunV_spec {rs : List Int} (h : isGraphB rs.length rs = true) : sunV rs.length rs = dfs (fun l => sunMay rs l) (fun l => sunB rs.length rs l) rs.length 6 [] := by
  unfold sunV; rw [if_pos h]; exact dfs_prune rs.length (nec_sun _ rs) (nec_sunMay _ rs) 6 [] rfl
theorem sunV_len (n : Int) (rs : List Int) : ((sunV n rs).getD []).length ≤ 1048576 := by
  unfold sunV; split
  · exact Nat.le_trans (dfs_len (n := 6) rfl) (by omega)
  · simp


end Go.Proofs.Ytfkehmpckhmkbaa

namespace Go.Proofs.Ytfkehmpckhmkbaa
open Go.RowKit



end Go.Proofs.Ytfkehmpckhmkbaa

namespace Go.Proofs.Ytfkehmpckhmkbaa
open Go.RowKit

def obst2V (n : Int) (rs : List Int) : Option (List Int) := match holeV n rs with | some x => some x | none => sunV n rs
theorem obst2V_len (n : Int) (rs : List Int) : ((obst2V n rs).getD []).length ≤ 1048576 := by
  unfold obst2V; split
  · rename_i x h; have := holeV_len n rs; rw [h] at this; exact this
  · exact sunV_len n rs



end Go.Proofs.Ytfkehmpckhmkbaa

namespace Go.Proofs.Ytfkehmpckhmkbaa
open Go.RowKit

/-! ### A search finds what there is -/
theorem preF_none {may q : List Int → Bool} {N f : Nat} {l : List Int} : ∀ j, (preF (flStep (flRun (S := Unit) (fun _ l => ((), q l)) may N f) may l) ((), none) j).1.2 = none →
    preF (flStep (flRun (S := Unit) (fun _ l => ((), q l)) may N f) may l) ((), none) j = (((), none), true) ∧ ∀ v, v < j → (flSub (flRun (S := Unit) (fun _ l => ((), q l)) may N f) may l v ((), none)).2 = none
  | 0, _ => ⟨rfl, fun v h => by omega⟩
  | j + 1, h => by
    by_cases hs : (preF (flStep (flRun (S := Unit) (fun _ l => ((), q l)) may N f) may l) ((), none) j).2 = true
    · rw [preF, if_pos hs] at h
      have h0 : (preF (flStep (flRun (S := Unit) (fun _ l => ((), q l)) may N f) may l) ((), none) j).1.2 = none := by
        cases j with
        | zero => rfl
        | succ j =>
          rw [preF] at hs ⊢
          split
          · rename_i h2
            rw [if_pos h2] at hs
            unfold flStep at hs ⊢
            simpa using hs
          · rename_i h2
            rw [if_neg h2] at hs
            exact absurd hs h2
      obtain ⟨e, hv⟩ := preF_none j h0
      rw [e] at h
      have h3 : (flSub (flRun (S := Unit) (fun _ l => ((), q l)) may N f) may l j ((), none)).2 = none := h
      refine ⟨?_, fun v hvj => ?_⟩
      · rw [preF_go e]
        unfold flStep
        rw [unit_eq h3]; rfl
      · rcases Nat.lt_succ_iff_lt_or_eq.1 hvj with h4 | rfl
        · exact hv v h4
        · exact h3
    · rw [preF, if_neg hs] at h
      obtain ⟨e, -⟩ := preF_none j h
      rw [e] at hs
      exact absurd rfl hs
theorem dfs_some {may q : List Int → Bool} {N n : Nat} (h : Nec may q n) : ∀ (t : List Int) (l : List Int), (l ++ t).length = n → q (l ++ t) = true → (∀ y ∈ t, ∃ v : Nat, v < N ∧ y = (v : Int)) → (dfs may q N t.length l).isSome = true
  | [], l, _, hq, _ => by
    rw [List.append_nil] at hq
    show (if q l = true then some l else none).isSome = true
    rw [if_pos hq]; rfl
  | y :: t, l, hl, hq, hy => by
    obtain ⟨v, hv, rfl⟩ := hy y (by simp)
    have e : l ++ (v : Int) :: t = (l ++ [(v : Int)]) ++ t := by simp
    rw [e] at hl hq
    obtain ⟨h1, h2⟩ := h l v t hl hq
    have ih := dfs_some h t (l ++ [(v : Int)]) hl hq fun y h => hy y (List.mem_cons_of_mem _ h)
    cases hd : dfs may q N (t.length + 1) l with
    | some x => rfl
    | none =>
      exfalso
      have := (preF_none N hd).2 v hv
      unfold flSub at this
      rw [if_pos ⟨h1, h2⟩] at this
      have e2 : dfs may q N t.length (l ++ [(v : Int)]) = none := this
      rw [e2] at ih; cases ih

theorem nodup_lt7 : ∀ (k : Nat) (l : List Nat), l.Nodup → (∀ a, a ∈ l → a < k) → l.length ≤ k
  | 0, l, _, h => by
    cases l with
    | nil => exact Nat.le_refl _
    | cons a l => exact absurd (h a (by simp)) (by omega)
  | k + 1, l, hn, h => by
    by_cases hk : k ∈ l
    · have h1 := nodup_lt7 k (l.erase k) (hn.erase k) fun a ha => by
        have h2 := h a (List.mem_of_mem_erase ha)
        have h3 : a ≠ k := by rintro rfl; exact hn.not_mem_erase ha
        omega
      rw [List.length_erase_of_mem hk] at h1
      omega
    · have h1 := nodup_lt7 k l hn fun a ha => by
        have h2 := h a ha
        have h3 : a ≠ k := by rintro rfl; exact hk ha
        omega
      omega

end Go.Proofs.Ytfkehmpckhmkbaa
