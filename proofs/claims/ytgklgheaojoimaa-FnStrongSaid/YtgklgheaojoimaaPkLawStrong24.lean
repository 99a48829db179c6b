/-
  The walks of IsWay on both sides. For at most 2^20 rows and list elements; the program's wants that the list's capacity is at least its length.
  BandOf of the reference. For at most 2^20 rows.
  Plain laws of searches through all lists of different numbers: what a visitor that never stops has seen; the first best list. No conditions.
-/
import Derived.Test.YtgklgheaojoimaaPkLawStrong11
import Derived.Test.YtgklgheaojoimaaPkLawStrong19
import Derived.Test.YtgklgheaojoimaaPkLawStrong21
namespace Go.Proofs.Ytgklgheaojoimaa
open Go.RowKit

def edgeAt (rs l : List Int) (j : Nat) : Bool := (gn rs (gi l (j - 1)).toNat).testBit (gi l j).toNat
def wayB (n : Int) (rs l : List Int) : Bool := vertsB n rs l && decide (1 ≤ l.length ∧ ∀ j, j < l.length → 1 ≤ j → edgeAt rs l j = true)
theorem wayB_no {n : Int} {rs l : List Int} (h : vertsB n rs l = false) : wayB n rs l = false := by unfold wayB; rw [h]; rfl
theorem wayB_nil {n : Int} {rs l : List Int} (h : l.length = 0) : wayB n rs l = false := by unfold wayB; rw [decide_eq_false (by omega), Bool.and_false]
theorem wayB_bad {n : Int} {rs l : List Int} {j : Nat} (h1 : 1 ≤ j) (h2 : j < l.length) (h : edgeAt rs l j = false) : wayB n rs l = false := by
  unfold wayB; rw [decide_eq_false, Bool.and_false]; rintro ⟨_, a⟩; rw [a j h2 h1] at h; cases h
theorem wayB_ok {n : Int} {rs l : List Int} (hv : vertsB n rs l = true) (h0 : 1 ≤ l.length) (h : ∀ j, j < l.length → 1 ≤ j → edgeAt rs l j = true) : wayB n rs l = true := by
  unfold wayB; rw [hv, Bool.true_and, decide_eq_true_eq]; exact ⟨h0, h⟩
/-- A vertex of a list of different vertices, as a natural number. -/
theorem vert_at {n : Int} {rs l : List Int} (h : vertsB n rs l = true) {j : Nat} (hj : j < l.length) : ∃ v : Nat, gi l j = v ∧ v < rs.length := by
  obtain ⟨a, b⟩ := ((vertsB_true.1 h).2 j hj).1
  exact ⟨(gi l j).toNat, by omega, by omega⟩



end Go.Proofs.Ytgklgheaojoimaa

namespace Go.Proofs.Ytgklgheaojoimaa
open Go.RowKit

/-- Are places i and k of an order neighbours? -/
def nearB (rs l : List Int) (i k : Nat) : Bool := (gn rs (gi l i).toNat).testBit (gi l k).toNat
def bandRow (rs l : List Int) (i : Nat) : Nat → Nat → Nat
  | 0, a => a
  | k + 1, a => if nearB rs l i k = true then (if bandRow rs l i k a < i - k then i - k else bandRow rs l i k a) else bandRow rs l i k a
def bandTo (rs l : List Int) : Nat → Nat
  | 0 => 0
  | i + 1 => bandRow rs l i i (bandTo rs l i)
def bandV (n : Int) (rs l : List Int) : Int := if orderB n rs l = true then bandTo rs l l.length else -1
theorem bandV_no {n : Int} {rs l : List Int} (h : orderB n rs l = false) : bandV n rs l = -1 := by unfold bandV; rw [if_neg (by rw [h]; decide)]
theorem bandV_of {n : Int} {rs l : List Int} (h : orderB n rs l = true) : bandV n rs l = bandTo rs l l.length := by unfold bandV; rw [if_pos h]
theorem bandRow_no {rs l : List Int} {i k a : Nat} (h : nearB rs l i k = false) : bandRow rs l i (k + 1) a = bandRow rs l i k a := by
  show (if nearB rs l i k = true then _ else _) = _; rw [if_neg (by rw [h]; decide)]
theorem bandRow_yes {rs l : List Int} {i k a : Nat} (h : nearB rs l i k = true) : bandRow rs l i (k + 1) a = if bandRow rs l i k a < i - k then i - k else bandRow rs l i k a := by
  show (if nearB rs l i k = true then _ else _) = _; rw [if_pos h]
/-- What it bounds. -/
theorem bandRow_le {rs l : List Int} {i M : Nat} : ∀ k a, bandRow rs l i k a ≤ M ↔ a ≤ M ∧ ∀ j, j < k → nearB rs l i j = true → i - j ≤ M
  | 0, a => by simp [bandRow]
  | k + 1, a => by
    have ih := bandRow_le (rs := rs) (l := l) (i := i) (M := M) k a
    cases h : nearB rs l i k
    · rw [bandRow_no h, ih]
      constructor
      · rintro ⟨h1, h2⟩
        refine ⟨h1, fun j hj hn => ?_⟩
        by_cases e : j = k
        · subst e; rw [h] at hn; cases hn
        · exact h2 j (by omega) hn
      · rintro ⟨h1, h2⟩; exact ⟨h1, fun j hj => h2 j (by omega)⟩
    · have key : bandRow rs l i (k + 1) a ≤ M ↔ bandRow rs l i k a ≤ M ∧ i - k ≤ M := by rw [bandRow_yes h]; split <;> omega
      rw [key, ih]
      constructor
      · rintro ⟨⟨h1, h2⟩, h3⟩
        refine ⟨h1, fun j hj hn => ?_⟩
        by_cases e : j = k
        · subst e; exact h3
        · exact h2 j (by omega) hn
      · rintro ⟨h1, h2⟩; exact ⟨⟨h1, fun j hj => h2 j (by omega)⟩, h2 k (by omega) h⟩
theorem bandTo_le {rs l : List Int} {M : Nat} : ∀ n, bandTo rs l n ≤ M ↔ ∀ i, i < n → ∀ j, j < i → nearB rs l i j = true → i - j ≤ M
  | 0 => by simp [bandTo]
  | n + 1 => by
    have ih := bandTo_le (rs := rs) (l := l) (M := M) n
    show bandRow rs l n n (bandTo rs l n) ≤ M ↔ _
    rw [bandRow_le, ih]
    constructor
    · rintro ⟨h1, h2⟩ i hi
      by_cases e : i = n
      · subst e; exact h2
      · exact h1 i (by omega)
    · intro h; exact ⟨fun i hi => h i (by omega), h n (by omega)⟩

set_option maxRecDepth 100000 in
set_option maxHeartbeats 2000000 in
theorem specBandOf_any (n : Int) (rs l : List Int) (ro lo : Option Addr) (rc lc : Nat) (w : World) (hr : IntsAt w ro rs) (hrl : rs.length ≤ 1048576) (hl : IntsAt w lo l) (hll : l.length ≤ 1048576) :
    Calls Try.prog 122 #[.agg #[.int .i64 n, .slice ro rs.length rc], .slice lo l.length lc] w fun e w' => e = .returned (.int .i64 (bandV n rs l)) ∧ Below w.heap.size w w' := by
  go_enter Try.func122, Try.ntmps122
  go_wp2_with fail
  generalize hW : w.alloc _ = W1
  obtain ⟨hB, -, k0⟩ := alloc1 hW
  replace hr := hr.below hB
  replace hl := hl.below hB
  have hb0 := k0.lt
  have hc0 := k0.cell 0
  have hc1 := k0.cell 1
  simp at hc0 hc1
  clear hW k0
  have HhB := Lib.hid hB
  clear hB
  obtain ⟨m, hm0⟩ : ∃ m : Later W1, m.w = W1 := ⟨Later.refl _, rfl⟩
  refine (fun h => hm0 ▸ h) ?_
  clear hm0
  cases hv : orderB n rs l
  · have HE := Lib.hid (bandV_no hv)
    have hO := fun m : Later W1 => specIsOrder_any n rs l ro lo rc lc m.w (hr.later m) hrl (hl.later m) hll
    rw [hv] at hO
    go_wp2_with (first | (go_at_call 134; refine (Calls.later m (hO _)).mono ?_; rintro e w' ⟨rfl, m, rfl⟩))
    go_ret
    exact ⟨retI (by rw [HE.out]), below_later HhB.out m⟩
  · have HE := Lib.hid (bandV_of hv)
    have hO := fun m : Later W1 => specIsOrder_any n rs l ro lo rc lc m.w (hr.later m) hrl (hl.later m) hll
    rw [hv] at hO
    obtain ⟨hvb, rfl, g, hlen⟩ := orderB_true hv
    have hg1 := g.pos
    have hg2 := g.le
    have hl7 : l.length ≤ 7 := by omega
    have hl0 : 0 < l.length := by omega
    obtain ⟨lb, lofs, rfl, hlb, hlc⟩ := hl hl0
    have HLc : Hid (∀ k, k < l.length → ∃ u : Nat, u < rs.length ∧ gi l k = u ∧ W1.cell? ⟨lb, lofs + k, none⟩ = some (.int .i64 (u : Int))) := Lib.hid fun k hk => by
      obtain ⟨u, h1, h2⟩ := vert_at hvb hk
      exact ⟨u, h2, h1, by rw [← h1]; exact hlc k hk⟩
    clear hlc hl hvb hlen
    go_wp2_with (first | (go_at_call 134; refine (Calls.later m (hO _)).mono ?_; rintro e w' ⟨rfl, m, rfl⟩))
    clear hO
    have hM7 : ∀ i, i ≤ l.length → bandTo rs l i ≤ 7 := fun i hi => (bandTo_le i).2 fun a ha b hb _ => by omega
    go_loopw [5, 6] (fun b i wr => (∃ m : Later W1, wr = m.w) ∧ ∃ k : Nat, k ≤ l.length ∧ i = .int .i64 k ∧ b = .int .i64 (bandTo rs l k : Nat)) (fun _ i _ => l.length - (intOf i).toNat)
    case atStart => exact ⟨⟨m, rfl⟩, 0, by omega, rfl, rfl⟩
    case round =>
      obtain ⟨⟨m, rfl⟩, k, hk, rfl, rfl⟩ := hrel
      by_cases hlt : k < l.length
      · obtain ⟨u, hul, hue, huc⟩ := HLc.out k hlt
        have hA7 := hM7 k hk
        have HS : Hid (bandTo rs l (k + 1) = bandRow rs l k k (bandTo rs l k)) := rfl
        have hR7 : ∀ t, t ≤ k → bandRow rs l k t (bandTo rs l k) ≤ 7 := fun t ht => (bandRow_le t _).2 ⟨hA7, fun j hj _ => by omega⟩
        generalize hA : bandTo rs l k = A at *
        go_wp2_with fail
        go_loopw [5, 7] (fun b i wr => (∃ m : Later W1, wr = m.w) ∧ ∃ t : Nat, t ≤ k ∧ i = .int .i64 t ∧ b = .int .i64 (bandRow rs l k t A : Nat)) (fun _ i _ => k - (intOf i).toNat)
        case atStart => exact ⟨⟨m, rfl⟩, 0, by omega, rfl, rfl⟩
        case round =>
          obtain ⟨⟨m, rfl⟩, t, ht, rfl, rfl⟩ := hrel
          by_cases htt : t < k
          · obtain ⟨v, hvl, hve, hvc⟩ := HLc.out t (by omega)
            have hC := fun m : Later W1 => l2Edge_any rs u v ro rc m.w (hr.later m) g hul hvl
            have hnb : nearB rs l k t = (gn rs u).testBit v := by unfold nearB; rw [hue, hve]; rfl
            have HY := Lib.hid (fun h => bandRow_yes (rs := rs) (l := l) (i := k) (k := t) (a := A) h)
            have HN := Lib.hid (fun h => bandRow_no (rs := rs) (l := l) (i := k) (k := t) (a := A) h)
            have hB7 := hR7 t ht
            rw [hnb] at HY HN
            clear hnb
            generalize bandRow rs l k t A = B at *
            cases hb : (gn rs u).testBit v
            · rw [hb] at hC
              replace HN := Lib.hid (HN.out hb)
              clear HY
              go_wp2_with fail
              refine wp_region_later m rfl (by kernel_rfl) (by kernel_rfl) ?_
              repeat (go_big_quiet_step ((first | (go_at_call 99; exact Calls.later _ (hC _)))))
              refine wpQuiet_nil ?_
              rintro _ ⟨m, rfl⟩
              go_wp2_with fail
              go_roundw
              case rel => exact ⟨⟨m, rfl⟩, t + 1, by omega, by go_num, by rw [HN.out]⟩
              case measure => simp [intOf]; omega
            · rw [hb] at hC
              replace HY := Lib.hid (HY.out hb)
              clear HN
              have hkt : ((k : Int) - (t : Int)) = ((k - t : Nat) : Int) := by omega
              by_cases hc : B < k - t
              all_goals
                go_wp2_with fail
                refine wp_region_later m rfl (by kernel_rfl) (by kernel_rfl) ?_
                repeat (go_big_quiet_step ((first | (go_at_call 99; exact Calls.later _ (hC _)))))
                refine wpQuiet_nil ?_
                rintro _ ⟨m, rfl⟩
                go_wp2_with fail
                go_roundw
                case rel => exact ⟨⟨m, rfl⟩, t + 1, by omega, by go_num, by rw [HY.out]; simp [hc]⟩
                case measure => simp [intOf]; omega
          · have hte : t = k := by omega
            have HS2 : Hid (bandTo rs l (k + 1) = bandRow rs l k t A) := Lib.hid (by rw [hte]; exact HS.out)
            clear hte
            generalize bandRow rs l k t A = B at *
            go_wp2_with fail
            go_roundw
            case rel => exact ⟨⟨m, rfl⟩, k + 1, by omega, by go_num, by rw [HS2.out]⟩
            case measure => simp [intOf]; omega
      · have hke : bandV rs.length rs l = (bandTo rs l k : Int) := by rw [HE.out, show k = l.length by omega]
        have HKE := Lib.hid hke
        clear hke
        go_wp2_with fail
        go_ret
        exact ⟨retI (by rw [HKE.out]), below_later HhB.out m⟩

end Go.Proofs.Ytgklgheaojoimaa

namespace Go.Proofs.Ytgklgheaojoimaa
open Go.RowKit

/-- All ways to go on with f different numbers below N, in order. -/
def ext (N : Nat) : Nat → List Int → List (List Int)
  | 0, l => [l]
  | f + 1, l => (List.range N).flatMap fun v : Nat => if inB l (v : Int) = true then [] else ext N f (l ++ [(v : Int)])
theorem flRun_fold {S : Type} {V : S → List Int → S × Bool} {N : Nat} (hV : ∀ s l, (V s l).2 = false) : ∀ f s l, flRun V (fun _ => true) N f s l = ((ext N f l).foldl (fun s x => (V s x).1) s, none)
  | 0, s, l => by
    show ((V s l).1, if (V s l).2 = true then some l else none) = _
    rw [hV]; rfl
  | f + 1, s, l => by
    have h : ∀ j, preF (flStep (flRun V (fun _ => true) N f) (fun _ => true) l) (s, none) j = ((((List.range j).flatMap fun v : Nat => if inB l (v : Int) = true then [] else ext N f (l ++ [(v : Int)])).foldl (fun s x => (V s x).1) s, none), true) := by
      intro j
      induction j with
      | zero => rfl
      | succ j ih =>
        rw [preF_go ih, List.range_succ, List.flatMap_append, List.foldl_append]
        unfold flStep flSub
        cases hb : inB l (j : Int)
        · rw [if_pos ⟨rfl, rfl⟩, flRun_fold hV f]
          simp [hb]
        · rw [if_neg (by rintro ⟨h1, -⟩; cases h1)]
          simp [hb]
    show (preF _ (s, none) N).1 = _
    rw [h N]; rfl

/-- t goes on behind p with different numbers below N. -/
def fresh (N : Nat) : List Int → List Nat → Prop
  | _, [] => True
  | p, v :: t => v < N ∧ inB p (v : Int) = false ∧ fresh N (p ++ [(v : Int)]) t
theorem mem_ext {N : Nat} : ∀ f p (x : List Int), x ∈ ext N f p ↔ ∃ t : List Nat, t.length = f ∧ fresh N p t ∧ x = p ++ t.map Int.ofNat
  | 0, p, x => by
    show x ∈ [p] ↔ _
    rw [List.mem_singleton]
    constructor
    · rintro rfl; exact ⟨[], rfl, trivial, by simp⟩
    · rintro ⟨t, h1, -, h3⟩
      obtain rfl : t = [] := List.eq_nil_of_length_eq_zero h1
      simpa using h3
  | f + 1, p, x => by
    show x ∈ (List.range N).flatMap (fun v : Nat => if inB p (v : Int) = true then [] else ext N f (p ++ [(v : Int)])) ↔ _
    rw [List.mem_flatMap]
    constructor
    · rintro ⟨v, h1, h2⟩
      have hv : v < N := by simpa using h1
      split at h2
      · cases h2
      · rename_i h3
        obtain ⟨t, h4, h5, h6⟩ := (mem_ext f _ x).1 h2
        exact ⟨v :: t, by simp [h4], ⟨hv, by simpa using h3, h5⟩, by rw [h6]; simp⟩
    · rintro ⟨t, h1, h2, h3⟩
      match t, h1, h2, h3 with
      | v :: t, h1, ⟨h4, h5, h6⟩, h3 =>
        refine ⟨v, by simpa using h4, ?_⟩
        rw [if_neg (by rw [h5]; decide)]
        exact (mem_ext f _ x).2 ⟨t, by simpa using h1, h6, by rw [h3]; simp⟩

/-! ### The first best -/
abbrev BestS := Option (List Int) × Int
/-- What bestOrder's visitor does. -/
def bestStep (num : List Int → Int) (s : BestS) (x : List Int) : BestS := if s.2 < 0 ∨ num x < s.2 then (some x, num x) else s
theorem bestFold {num : List Int → Int} : ∀ (xs : List (List Int)) (y : List Int), (∀ x, x ∈ xs → 0 ≤ num x) → 0 ≤ num y → ∃ z, z ∈ y :: xs ∧ xs.foldl (bestStep num) (some y, num y) = (some z, num z) ∧ (∀ x, x ∈ y :: xs → num z ≤ num x)
  | [], y, _, _ => ⟨y, by simp, rfl, by simp⟩
  | x :: xs, y, h, hy => by
    have hx := h x (by simp)
    have ht : ∀ u, u ∈ xs → 0 ≤ num u := fun u hu => h u (by simp [hu])
    rw [List.foldl_cons]
    by_cases hc : num x < num y
    · have e : bestStep num (some y, num y) x = (some x, num x) := by unfold bestStep; rw [if_pos (.inr hc)]
      rw [e]
      obtain ⟨z, h1, h2, h3⟩ := bestFold xs x ht hx
      refine ⟨z, List.mem_cons_of_mem _ h1, h2, fun u hu => ?_⟩
      simp only [List.mem_cons] at hu
      rcases hu with rfl | hu
      · have := h3 x (by simp); omega
      · exact h3 u (by simpa using hu)
    · have e : bestStep num (some y, num y) x = (some y, num y) := by unfold bestStep; rw [if_neg (by dsimp only; omega)]
      rw [e]
      obtain ⟨z, h1, h2, h3⟩ := bestFold xs y ht hy
      refine ⟨z, by rcases List.mem_cons.1 h1 with h4 | h4 <;> simp [h4], h2, fun u hu => ?_⟩
      simp only [List.mem_cons] at hu
      rcases hu with rfl | rfl | hu
      · exact h3 u (by simp)
      · have := h3 y (by simp); omega
      · exact h3 u (by simp [hu])
/-- The best one is the first whose number is at most the least number. -/
theorem bestFold_find {num : List Int → Int} : ∀ (xs : List (List Int)) (y : List Int), (∀ x, x ∈ xs → 0 ≤ num x) → 0 ≤ num y → (y :: xs).find? (fun x => decide (num x ≤ (xs.foldl (bestStep num) (some y, num y)).2)) = (xs.foldl (bestStep num) (some y, num y)).1
  | [], y, _, _ => by simp
  | x :: xs, y, h, hy => by
    have hx := h x (by simp)
    have ht : ∀ u, u ∈ xs → 0 ≤ num u := fun u hu => h u (by simp [hu])
    rw [List.foldl_cons]
    by_cases hc : num x < num y
    · have e : bestStep num (some y, num y) x = (some x, num x) := by unfold bestStep; rw [if_pos (.inr hc)]
      rw [e]
      have ih := bestFold_find xs x ht hx
      obtain ⟨z, h1, h2, h3⟩ := bestFold xs x ht hx
      rw [h2] at ih ⊢
      have h4 := h3 x (by simp)
      dsimp only at ih ⊢
      rw [List.find?_cons, decide_eq_false (show ¬num y ≤ num z by omega)]
      exact ih
    · have e : bestStep num (some y, num y) x = (some y, num y) := by unfold bestStep; rw [if_neg (by dsimp only; omega)]
      rw [e]
      have ih := bestFold_find xs y ht hy
      obtain ⟨z, h1, h2, h3⟩ := bestFold xs y ht hy
      rw [h2] at ih ⊢
      dsimp only at ih ⊢
      rw [List.find?_cons] at ih ⊢
      cases hd : decide (num y ≤ num z)
      · rw [hd] at ih
        dsimp only at ih ⊢
        rw [List.find?_cons]
        have := of_decide_eq_false hd
        rw [decide_eq_false (show ¬num x ≤ num z by omega)]
        exact ih
      · rw [hd] at ih
        exact ih

end Go.Proofs.Ytgklgheaojoimaa
