/-
  Plain laws of colourings: a colour list is a colouring; counts and the first colouring agree. No program.
  LargestIndependent of the reference. For at most 2^20 rows.
  Plain laws for FnColors: the chromatic number, the count and the coloring agree; the cover by cliques covers. No program.
  IsColoring of the program at a list that colours rightly. For graphs of at most seven vertices.
-/
import Derived.Test.YtfkehmpckhmkbaaGreatPkLawPerfect26
import Derived.Test.YtfkehmpckhmkbaaGreatPkLawPerfect14
import Derived.Test.YtfkehmpckhmkbaaGreatPkLawPerfect22
import Derived.Test.YtfkehmpckhmkbaaGreatPkLawPerfect27
import Derived.Test.YtfkehmpckhmkbaaGreatPkLawPerfect23
import Derived.Test.YtfkehmpckhmkbaaGreatPkLawPerfect03
namespace Go.Proofs.YtfkehmpckhmkbaaGreat
open Go.RowKit

theorem els_nd (S : Nat) : (els S).Nodup := List.Pairwise.filter _ List.nodup_range

theorem preB_none {step : Nat → Option (List Int) → Option (List Int) × Bool} {n : Nat} (h : ∀ c, (step c none).2 = (step c none).1.isNone) (hn : ∀ j, j < n → (step j none).1 = none) : preB step none n = (none, true) := by
  induction n with
  | zero => rfl
  | succ n ih =>
    have e := ih fun j hj => hn j (by omega)
    rw [preB_go e]
    have h1 := hn n (by omega)
    have h2 := h n
    rw [h1] at h2
    exact Prod.ext h1 h2

/-- Where colours t and u clash. -/
theorem freeTo_true {rs l : List Int} {c : Nat} : ∀ {t : Nat}, freeTo rs l c t = true → ∀ u, u < t → clash rs l c u = false := by
  intro t
  induction t with
  | zero => intro _ u hu; omega
  | succ t ih =>
    intro h u hu
    unfold freeTo at h
    rw [Bool.and_eq_true] at h
    by_cases e : u < t
    · exact ih (by first | exact h.1 | exact h.2) u e
    · obtain rfl : u = t := by omega
      have := h
      simpa using (by first | exact h.2 | exact h.1 : (!clash rs l c u) = true)

/-- No two neighbours have the same colour. -/
def properC (rs l : List Int) : Prop := ∀ i j, i < l.length → j < i → (gn rs i).testBit j = true → gi l j ≠ gi l i
theorem proper_snoc {rs l : List Int} {c : Nat} (h : properC rs l) (hf : freeTo rs l c l.length = true) : properC rs (l ++ [(c : Int)]) := by
  intro i j hi hj hb
  by_cases e : i < l.length
  · rw [gi_left (by omega), gi_left e]
    exact h i j e hj hb
  · obtain rfl : i = l.length := by simp at hi; omega
    rw [gi_left hj, gi_last]
    intro e2
    have := freeTo_true hf j hj
    unfold clash at this
    rw [hb, Bool.and_true, beq_eq_false_iff_ne] at this
    exact this e2
theorem firstC_proper {rs x : List Int} {kc f : Nat} (h : firstC rs kc f [] = some x) : properC rs x :=
  firstC_inv (properC rs) (fun _ _ h _ hf => proper_snoc h hf) f [] x (fun i _ hi => absurd hi (by simp)) h

/-! ### The count is above nothing exactly where a first colouring is found -/
theorem colSum_pos {rs : List Int} {kc f : Nat} {l : List Int} : ∀ n, 0 < colSum rs kc f l n ↔ ∃ c, c < n ∧ freeTo rs l c l.length = true ∧ 0 < colCount rs kc f (l ++ [(c : Int)])
  | 0 => by rw [colSum_zero]; exact ⟨fun h => by omega, fun ⟨c, h, _⟩ => by omega⟩
  | n + 1 => by
    have ih := colSum_pos (rs := rs) (kc := kc) (f := f) (l := l) n
    cases hf : freeTo rs l n l.length
    · rw [colSum_no hf, ih]
      constructor
      · rintro ⟨c, h1, h2, h3⟩; exact ⟨c, by omega, h2, h3⟩
      · rintro ⟨c, h1, h2, h3⟩
        by_cases e : c = n
        · subst e; rw [hf] at h2; cases h2
        · exact ⟨c, by omega, h2, h3⟩
    · rw [colSum_yes hf]
      constructor
      · intro h
        by_cases h0 : 0 < colCount rs kc f (l ++ [(n : Int)])
        · exact ⟨n, by omega, hf, h0⟩
        · obtain ⟨c, h1, h2, h3⟩ := ih.1 (by omega)
          exact ⟨c, by omega, h2, h3⟩
      · rintro ⟨c, h1, h2, h3⟩
        by_cases e : c = n
        · subst e; omega
        · have := ih.2 ⟨c, by omega, h2, h3⟩; omega
theorem count_first {rs : List Int} {kc : Nat} : ∀ f l, (firstC rs kc f l).isSome = true ↔ 0 < colCount rs kc f l
  | 0, l => ⟨fun _ => Nat.one_pos, fun _ => rfl⟩
  | f + 1, l => by
    rw [colCount_succ, colSum_pos]
    have hst : ∀ c : Nat, (if freeTo rs l c l.length = true then colRun lastV rs kc f none (l ++ [(c : Int)]) else (none, true)).2 = (if freeTo rs l c l.length = true then colRun lastV rs kc f none (l ++ [(c : Int)]) else (none, true)).1.isNone := fun c => by
      split
      · exact colRun_last rs kc f _
      · rfl
    constructor
    · intro h
      refine Classical.byContradiction fun hn => ?_
      have h2 := preB_none (step := fun c s => if freeTo rs l c l.length = true then colRun lastV rs kc f s (l ++ [(c : Int)]) else (s, true)) (n := kc) hst fun j hj => by
        split
        · rename_i hf
          cases e : firstC rs kc f (l ++ [(j : Int)]) with
          | none => exact e
          | some x => exact absurd ⟨j, hj, hf, (count_first f _).1 (by rw [e]; rfl)⟩ hn
        · rfl
      have h3 : firstC rs kc (f + 1) l = none := congrArg Prod.fst h2
      rw [h3] at h; cases h
    · rintro ⟨c, h1, h2, h3⟩
      refine preB_some hst h1 ?_
      rw [if_pos h2]
      exact (count_first f _).2 h3

/-- Different numbers below k are at most k. -/
theorem nodup_le : ∀ (k : Nat) (l : List Nat), l.Nodup → (∀ a, a ∈ l → a < k) → l.length ≤ k
  | 0, l, _, h => by
    cases l with
    | nil => exact Nat.le_refl _
    | cons a l => exact absurd (h a (by simp)) (by omega)
  | k + 1, l, hn, h => by
    by_cases hk : k ∈ l
    · have h1 := nodup_le k (l.erase k) (hn.erase k) fun a ha => by
        have h2 := h a (List.mem_of_mem_erase ha)
        have h3 : a ≠ k := by rintro rfl; exact hn.not_mem_erase ha
        omega
      rw [List.length_erase_of_mem hk] at h1
      omega
    · have h1 := nodup_le k l hn fun a ha => by
        have h2 := h a ha
        have h3 : a ≠ k := by rintro rfl; exact hk ha
        omega
      omega

theorem less_bit_fin : ∀ K : Fin 128, ∀ u v : Fin 7, K.val.testBit u.val = true → K.val.testBit v.val = true → u ≠ v → (K.val - 2 ^ v.val).testBit u.val = true := by decide +kernel
theorem clique_adj {rs : List Int} {K u v : Nat} (hK : K < 2 ^ rs.length) (h7 : rs.length ≤ 7) (h : cliqueN rs K = true) (hu : K.testBit u = true) (hv : K.testBit v = true) (hne : u ≠ v) : (gn rs v).testBit u = true := by
  have h1 := testBit_lt hK hu
  have h2 := testBit_lt hK hv
  have hp : 2 ^ rs.length ≤ 2 ^ 7 := Nat.pow_le_pow_right (by omega) h7
  unfold cliqueN at h
  rw [decide_eq_true_eq] at h
  have h3 := h v h2
  unfold cliqueBad at h3
  rw [hv, Bool.true_and, decide_eq_false_iff_not, Classical.not_not] at h3
  have h4 := less_bit_fin ⟨K, by omega⟩ ⟨u, by omega⟩ ⟨v, by omega⟩ hu hv (fun e => hne (congrArg Fin.val e))
  dsimp only at h4
  rw [← h3, Nat.testBit_and, Bool.and_eq_true] at h4
  exact h4.1
/-- A clique has at most as many vertices as there are colours. -/
theorem clique_le {rs x : List Int} {k K : Nat} (g : VG rs) (hK : K < 2 ^ rs.length) (hc : cliqueN rs K = true) (hx : properC rs x) (hl : x.length = rs.length) (hb : ∀ t, t < rs.length → ∃ c : Nat, c < k ∧ gi x t = c) : cnt K ≤ k := by
  have h7 := g.le
  have hm : ∀ a, a ∈ els K → K.testBit a = true ∧ a < rs.length := fun a ha => by
    have := (mem_els hK h7).1 ha
    exact ⟨this, testBit_lt hK this⟩
  have hnd : ((els K).map fun v => (gi x v).toNat).Nodup := by
    rw [List.Nodup, List.pairwise_map]
    refine List.Pairwise.imp_of_mem ?_ (els_nd K)
    intro a b ha hb2 hne e
    obtain ⟨ha1, ha2⟩ := hm a ha
    obtain ⟨hb1, hb3⟩ := hm b hb2
    obtain ⟨c, -, hc1⟩ := hb a ha2
    obtain ⟨d, -, hd1⟩ := hb b hb3
    have hcd : gi x a = gi x b := by rw [hc1, hd1] at e ⊢; simp at e; omega
    by_cases hab : a < b
    · exact hx b a (by omega) hab (clique_adj hK h7 hc ha1 hb1 hne) hcd
    · exact hx a b (by omega) (by omega) (clique_adj hK h7 hc hb1 ha1 (Ne.symm hne)) hcd.symm
  have := nodup_le k _ hnd fun a ha => by
    obtain ⟨v, hv, rfl⟩ := List.mem_map.1 ha
    obtain ⟨c, h1, h2⟩ := hb v (hm v hv).2
    rw [h2]; simpa using h1
  rw [List.length_map] at this
  exact this

/-! ### Covers by cliques -/
theorem accTo_bit {l : List Int} {i : Nat} : ∀ n, (accTo l n).testBit i = true → ∃ j, j < n ∧ (gi l j).toNat.testBit i = true
  | 0, h => by rw [accTo, Nat.zero_testBit] at h; cases h
  | n + 1, h => by
    rw [accTo, Nat.testBit_or, Bool.or_eq_true] at h
    rcases h with h | h
    · obtain ⟨j, h1, h2⟩ := accTo_bit n h
      exact ⟨j, by omega, h2⟩
    · exact ⟨n, by omega, h⟩

/-- No independent set has more vertices than a cover has cliques. -/
theorem indep_le {rs l : List Int} {X : Nat} (g : VG rs) (hX : X < 2 ^ rs.length) (hi : indepN rs X = true) (hl : coverB rs.length rs l = true) : cnt X ≤ l.length := by
  have h7 := g.le
  have hp : 2 ^ rs.length ≤ 2 ^ 7 := Nat.pow_le_pow_right (by omega) h7
  unfold coverB at hl
  rw [Bool.and_eq_true, decide_eq_true_eq] at hl
  obtain ⟨-, hl1, hl2⟩ := hl
  have hm : ∀ a, a ∈ els X → X.testBit a = true ∧ a < rs.length := fun a ha => by
    have := (mem_els hX h7).1 ha
    exact ⟨this, testBit_lt hX this⟩
  have hex : ∀ v, v < rs.length → ∃ j, j < l.length ∧ (gi l j).toNat.testBit v = true := fun v hv => accTo_bit l.length (by
    rw [hl2, Nat.testBit_two_pow_sub_one]; simpa using hv)
  have hf : ∃ F : Nat → Nat, ∀ v, v < rs.length → F v < l.length ∧ (gi l (F v)).toNat.testBit v = true :=
    ⟨fun v => if h : v < rs.length then (hex v h).choose else 0, fun v hv => by
      dsimp only
      rw [dif_pos hv]
      exact (hex v hv).choose_spec⟩
  obtain ⟨F, hF⟩ := hf
  have hadj : ∀ a b, X.testBit a = true → X.testBit b = true → (gn rs b).testBit a = true → False := fun a b ha hb h => by
    unfold indepN at hi
    rw [decide_eq_true_eq] at hi
    have := and_zero.1 hi a ((nbrs_bit (by omega)).2 ⟨b, hb, h⟩)
    rw [ha] at this; cases this
  have hnd : ((els X).map F).Nodup := by
    rw [List.Nodup, List.pairwise_map]
    refine List.Pairwise.imp_of_mem ?_ (els_nd X)
    intro a b ha hb hne e
    obtain ⟨ha1, ha2⟩ := hm a ha
    obtain ⟨hb1, hb2⟩ := hm b hb
    obtain ⟨f1, f2⟩ := hF a ha2
    obtain ⟨-, f4⟩ := hF b hb2
    have hcl := hl1 (F a) f1
    unfold coverAt at hcl
    rw [Bool.and_eq_true] at hcl
    obtain ⟨-, -, S, hS, hSl⟩ := isSetB_true (cliqueB_graph hcl.1)
    have hcn : cliqueN rs S = true := by
      have := hcl.1
      unfold cliqueB at this
      rw [Bool.and_eq_true, hS, Int.toNat_natCast] at this
      exact this.2
    rw [hS, Int.toNat_natCast] at f2
    rw [← e, hS, Int.toNat_natCast] at f4
    exact hadj a b ha1 hb1 (clique_adj hSl h7 hcn f2 f4 hne)
  have := nodup_le l.length _ hnd fun a ha => by
    obtain ⟨v, hv, rfl⟩ := List.mem_map.1 ha
    exact (hF v (hm v hv).2).1
  rw [List.length_map] at this
  exact this

/-- With fewer colours than the chromatic number there is no colouring. -/
theorem chrom_less {rs : List Int} {n : Int} {k j : Nat} (hk : chromV n rs = (k : Int)) (hj : j + 1 < k) : (colWith n rs ((j + 1 : Nat) : Int)).isSome = false := by
  unfold chromV at hk
  cases hf : firstB (fun j => (colWith n rs ((j + 1 : Nat) : Int)).isSome) 7 with
  | none => rw [hf] at hk; dsimp only at hk; omega
  | some i =>
    rw [hf] at hk
    dsimp only at hk
    unfold firstB at hf
    rw [List.find?_range_eq_some] at hf
    have := hf.2.2 j (by omega)
    simpa using this

theorem firstC_zero {rs : List Int} {f : Nat} (h : 1 ≤ f) (l : List Int) : firstC rs 0 f l = none := by
  cases f with
  | zero => omega
  | succ f => rfl

set_option maxRecDepth 100000 in
set_option maxHeartbeats 1000000 in
theorem specLargestIndep_any (n : Int) (rs : List Int) (ro : Option Addr) (rc : Nat) (w : World) (hr : IntsAt w ro rs) (hrl : rs.length ≤ 1048576) :
    Calls Tryz.prog 20 #[.agg #[.int .i64 n, .slice ro rs.length rc]] w fun e w' => e = .returned (.int .i64 (largestV n rs fun S => indepB rs.length rs S)) ∧ Below w.heap.size w w' := by
  go_enter Tryz.func20, Tryz.ntmps20
  go_wp2_with fail
  generalize hW : w.alloc _ = W1
  obtain ⟨hB, -, k0⟩ := alloc1 hW
  replace hr := hr.below hB
  have hb0 := k0.lt
  have hc0 := k0.cell 0
  have hc1 := k0.cell 1
  simp at hc0 hc1
  clear hW k0
  have HhB := Lib.hid hB
  clear hB
  cases hv : isGraphB n rs
  · have HE : Hid (largestV n rs (fun S => indepB rs.length rs S) = 0) := by show largestV n rs _ = 0; unfold largestV; rw [hv]; rfl
    go_loopw [3, 4] (fun b i wr => (∃ m : Later W1, wr = m.w) ∧ b = .int .i64 0 ∧ i = .int .i64 1) (fun _ _ _ => 0)
    case atStart => exact ⟨⟨Later.refl _, rfl⟩, rfl, rfl⟩
    case round =>
      obtain ⟨⟨m, rfl⟩, rfl, rfl⟩ := hrel
      go_wp2_with (first | (go_at_call 13; refine (Calls.later m (specIsGraph_any _ _ _ _ _ (hr.later m) hrl)).mono ?_; rintro e w' ⟨rfl, m, rfl⟩))
      go_ret
      exact ⟨retI (by rw [HE.out]), below_later HhB.out m⟩
  · obtain ⟨rfl, g⟩ := VG.of hv
    have hg1 := g.pos
    have hg2 := g.le
    obtain ⟨hp1, hp2⟩ := g.pow
    have hq := pwN_small rs.length (by omega)
    have HE : Hid (largestV rs.length rs (fun S => indepB rs.length rs S) = largestTo (fun S => indepB rs.length rs S) (2 ^ rs.length)) := by show largestV rs.length rs _ = _; unfold largestV; rw [if_pos hv]
    generalize 2 ^ rs.length = T at *
    generalize hP : (fun S : Nat => indepB rs.length rs S) = p at *
    have hpk : ∀ S : Nat, indepB rs.length rs S = p S := fun S => by rw [← hP]
    have HhP := Lib.hid hP
    clear hP
    go_loopw [3, 4] (fun b i wr => (∃ m : Later W1, wr = m.w) ∧ ∃ k : Nat, 1 ≤ k ∧ k ≤ T ∧ b = .int .i64 (largestTo p k) ∧ i = .int .i64 k) (fun _ i _ => T - (intOf i).toNat)
    case atStart => exact ⟨⟨Later.refl _, rfl⟩, 1, by omega, by omega, by rw [largestTo_one]; rfl, rfl⟩
    case round =>
      obtain ⟨⟨m, rfl⟩, k, hk1, hk, rfl, rfl⟩ := hrel
      by_cases hlt : k < T
      · have hl := largestTo_le p k
        have HN : Hid (largestTo p (k + 1) = if cnt (largestTo p k) < cnt k ∧ p k = true then k else largestTo p k) := rfl
        have hn1 := cnt_le k
        have hn2 := cnt_le (largestTo p k)
        generalize hN : largestTo p (k + 1) = L' at *
        have HhN := Lib.hid hN
        clear hN
        generalize largestTo p k = L at *
        have hIS := fun m : Later W1 => specIndep_any rs.length rs k ro rc m.w (hr.later m) hrl
        rw [hpk k] at hIS
        by_cases hc : cnt L < cnt k
        · cases hp : p k <;> simp only [hp] at hIS
          · go_wp2_with (first | (go_at_call 13; refine (Calls.later m (specIsGraph_any _ _ _ _ _ (hr.later m) hrl)).mono ?_; rintro e w' ⟨rfl, m, rfl⟩) | (go_at_call 19; refine (Calls.later m (specCount_any _ (by omega) _)).mono ?_; rintro e w' ⟨rfl, m, rfl⟩) | (go_at_call 47; refine (Calls.later m (hIS m)).mono ?_; rintro e w' ⟨rfl, m, rfl⟩))
            go_roundw
            case rel => exact ⟨⟨m, rfl⟩, k + 1, by omega, by omega, by rw [HhN.out, HN.out, if_neg (fun h => by rw [hp] at h; exact absurd h.2 (by decide))], by go_num⟩
            case measure => simp [intOf]; omega
          · go_wp2_with (first | (go_at_call 13; refine (Calls.later m (specIsGraph_any _ _ _ _ _ (hr.later m) hrl)).mono ?_; rintro e w' ⟨rfl, m, rfl⟩) | (go_at_call 19; refine (Calls.later m (specCount_any _ (by omega) _)).mono ?_; rintro e w' ⟨rfl, m, rfl⟩) | (go_at_call 47; refine (Calls.later m (hIS m)).mono ?_; rintro e w' ⟨rfl, m, rfl⟩))
            go_roundw
            case rel => exact ⟨⟨m, rfl⟩, k + 1, by omega, by omega, by rw [HhN.out, HN.out, if_pos ⟨hc, hp⟩], by go_num⟩
            case measure => simp [intOf]; omega
        · go_wp2_with (first | (go_at_call 13; refine (Calls.later m (specIsGraph_any _ _ _ _ _ (hr.later m) hrl)).mono ?_; rintro e w' ⟨rfl, m, rfl⟩) | (go_at_call 19; refine (Calls.later m (specCount_any _ (by omega) _)).mono ?_; rintro e w' ⟨rfl, m, rfl⟩))
          go_roundw
          case rel => exact ⟨⟨m, rfl⟩, k + 1, by omega, by omega, by rw [HhN.out, HN.out, if_neg (fun h => hc h.1)], by go_num⟩
          case measure => simp [intOf]; omega
      · go_wp2_with (first | (go_at_call 13; refine (Calls.later m (specIsGraph_any _ _ _ _ _ (hr.later m) hrl)).mono ?_; rintro e w' ⟨rfl, m, rfl⟩))
        go_ret
        obtain rfl : k = T := by omega
        exact ⟨retI (by rw [HhP.out, HE.out]), below_later HhB.out m⟩

theorem largestTo_top {p : Nat → Bool} (h0 : p 0 = true) : ∀ k, p (largestTo p k) = true := by
  intro k
  induction k with
  | zero => exact h0
  | succ k ih =>
    have e : largestTo p (k + 1) = if cnt (largestTo p k) < cnt k ∧ p k = true then k else largestTo p k := rfl
    by_cases hc : cnt (largestTo p k) < cnt k ∧ p k = true
    · rw [e, if_pos hc]; exact hc.2
    · rw [e, if_neg hc]; exact ih

theorem chrom_no {n : Int} {rs : List Int} (h : isGraphB n rs = false) : chromV n rs = -1 := chromV_none fun j _ => by rw [colWith_no h]; rfl
theorem cliqueN_zero (rs : List Int) : cliqueN rs 0 = true := cliqueN_ok fun v _ => by unfold cliqueBad; rw [Nat.zero_testBit]; rfl

/-- All that FnColors asks of a graph's colors. -/
theorem col_facts {n : Int} {rs : List Int} (hv : isGraphB n rs = true) : ∃ (k : Nat) (x : List Int), chromV n rs = k ∧ 1 ≤ k ∧ k ≤ 7 ∧ clqN n rs ≤ k ∧ colWith n rs k = some x ∧ x.length = rs.length ∧ (∀ i, i < rs.length → 0 ≤ gi x i ∧ gi x i ≤ 6) ∧ properC rs x ∧
    colWith n rs ((k : Int) - 1) = none ∧ (k ≤ 4 → 1 ≤ countV n rs k) ∧ (1 < k → k ≤ 5 → countV n rs ((k : Int) - 1) = 0) := by
  obtain ⟨k, x, h1, h2, h3, h4, h5, h6⟩ := chrom_facts hv
  obtain ⟨rfl, g⟩ := VG.of hv
  have hp := g.pow
  have hk7 : (decide (1 ≤ (k : Int)) && decide ((k : Int) ≤ 7)) = true := by simp; omega
  have hf := h4
  rw [colWith_of hv hk7] at hf
  have hpr := firstC_proper hf
  refine ⟨k, x, h1, h2, h3, ?_, h4, h5, fun i hi => ?_, hpr, ?_, fun h => ?_, fun ha hb => ?_⟩
  · rw [clqN_of hv]
    have h0 : cliqueB rs.length rs ((0 : Nat) : Int) = true := by rw [cliqueB_nat (isSetB_mk hv (Nat.two_pow_pos _))]; exact cliqueN_zero rs
    have ht := largestTo_top (p := fun S : Nat => cliqueB rs.length rs S) h0 (2 ^ rs.length)
    generalize largestTo (fun S : Nat => cliqueB rs.length rs S) (2 ^ rs.length) = K at *
    have hs : isSetB rs.length rs K = true := by
      cases e : isSetB rs.length rs K
      · rw [cliqueB_no e] at ht; cases ht
      · rfl
    rw [cliqueB_nat hs] at ht
    obtain ⟨-, -, S, e, hS⟩ := isSetB_true hs
    have e : K = S := Int.ofNat.inj e
    subst e
    have := clique_le g hS ht hpr h5 h6
    omega
  · obtain ⟨c, hc, e⟩ := h6 i hi
    rw [e]; omega
  · by_cases h : k = 1
    · subst h
      exact colWith_out rfl
    · have := chrom_less h1 (j := k - 2) (by omega)
      rw [show ((k - 2 + 1 : Nat) : Int) = (k : Int) - 1 by omega] at this
      simpa using this
  · rw [countV_of hv (by simp; omega)]
    have := (count_first rs.length []).1 (by rw [hf]; rfl : (firstC rs k rs.length []).isSome = true)
    omega
  · have e : (k : Int) - 1 = ((k - 2 + 1 : Nat) : Int) := by omega
    have hl := chrom_less h1 (j := k - 2) (by omega)
    rw [e, countV_of hv (by simp; omega)]
    rw [colWith_of hv (by simp; omega)] at hl
    have h0 : ¬0 < colCount rs (k - 2 + 1) rs.length [] := fun h => by
      rw [(count_first _ _).2 h] at hl; cases hl
    omega

/-! ### The cover -/
theorem colSet_bit {x : List Int} {c t i : Nat} : (colSet x c t).testBit i = true ↔ i < t ∧ gi x i = (c : Int) := by
  unfold colSet
  rw [accB_bit]; simp
theorem accCol_bit {x : List Int} {t k i : Nat} : ∀ j, j ≤ k → ((accTo (colSets x t k) j).testBit i = true ↔ i < t ∧ ∃ c : Nat, c < j ∧ gi x i = (c : Int))
  | 0, _ => by
    rw [accTo, Nat.zero_testBit]
    exact ⟨fun h => absurd h (by decide), fun ⟨_, c, h, _⟩ => absurd h (by omega)⟩
  | j + 1, hj => by
    rw [accTo, Nat.testBit_or, Bool.or_eq_true, accCol_bit j (by omega), colSets_at (by omega), Int.toNat_natCast, colSet_bit]
    constructor
    · rintro (⟨h1, c, h2, h3⟩ | ⟨h1, h2⟩)
      · exact ⟨h1, c, by omega, h3⟩
      · exact ⟨h1, j, by omega, h2⟩
    · rintro ⟨h1, c, h2, h3⟩
      by_cases e : c = j
      · subst e; exact .inr ⟨h1, h3⟩
      · exact .inl ⟨h1, c, by omega, h3⟩
/-- Two vertices of one color of the complement are neighbours. -/
theorem compl_col {rs x : List Int} (g : VG rs) (hp : properC (compl rs) x) (hl : x.length = rs.length) {a b : Nat} (ha : a < rs.length) (hb : b < rs.length) (hne : a ≠ b) (he : gi x a = gi x b) : (gn rs a).testBit b = true := by
  have hgn : ∀ v, v < rs.length → gn (compl rs) v = complRow rs v := fun v hv => by unfold gn; rw [compl_at hv]; simp
  cases e : (gn rs a).testBit b
  · exfalso
    have h1 : (gn (compl rs) a).testBit b = true := by rw [hgn a ha, complRow_bit]; exact ⟨hb, e, hne⟩
    have h2 : (gn (compl rs) b).testBit a = true := by rw [hgn b hb, complRow_bit]; exact ⟨ha, by rw [g.sym b hb a ha]; exact e, Ne.symm hne⟩
    rcases Nat.lt_or_gt_of_ne hne with h | h
    · exact hp b a (by omega) h h2 he
    · exact hp a b (by omega) h h1 he.symm
  · rfl

theorem cover_ok {rs : List Int} (hv : isGraphB rs.length rs = true) : coverB rs.length rs (coverOf rs.length rs) = true := by
  obtain ⟨-, g⟩ := VG.of hv
  have h128 := g.pow.1
  have hcg := compl_graph g
  obtain ⟨k, x, h1, h2, h3, h4, h5, h6, h7⟩ := coverOf_facts hv
  have hk7 : (decide (1 ≤ (k : Int)) && decide ((k : Int) ≤ 7)) = true := by simp; omega
  rw [colWith_of hcg hk7] at h4
  have hpr := firstC_proper h4
  rw [h7]
  unfold coverB
  rw [hv, Bool.true_and, decide_eq_true_eq, colSets_len]
  refine ⟨fun j hj => ?_, ?_⟩
  · have hS : colSet x j rs.length < 2 ^ rs.length := accB_lt _ _
    unfold coverAt
    rw [colSets_at hj, Bool.and_eq_true, decide_eq_true_eq, Int.toNat_natCast, cliqueB_nat (isSetB_mk hv hS)]
    constructor
    · refine cliqueN_ok fun v hvl => ?_
      unfold cliqueBad
      cases hb : (colSet x j rs.length).testBit v
      · rfl
      · rw [Bool.true_and, decide_eq_false_iff_not, Classical.not_not, ← nDiff_minus (by omega) (pow_sub hb)]
        apply Nat.eq_of_testBit_eq
        intro i
        rw [Bool.eq_iff_iff, Nat.testBit_and, Bool.and_eq_true, nDiff_bit]
        have hb' := colSet_bit.1 hb
        constructor
        · rintro ⟨ha, hs⟩
          refine ⟨hs, ?_⟩
          cases e : (2 ^ v).testBit i
          · rfl
          · have := pow_bit.1 e
            subst this
            rw [g.irr v hvl] at ha; cases ha
        · rintro ⟨hs, he⟩
          refine ⟨?_, hs⟩
          have hs' := colSet_bit.1 hs
          have hne : v ≠ i := fun e => by rw [pow_bit.2 e] at he; cases he
          exact compl_col g hpr h5 hvl hs'.1 hne (hb'.2.trans hs'.2.symm)
    · refine and_zero.2 fun i hi => ?_
      obtain ⟨hi1, c, hc, hi2⟩ := (accCol_bit (k := k) j (by omega)).1 hi
      cases e : (colSet x j rs.length).testBit i
      · rfl
      · have := (colSet_bit.1 e).2
        rw [hi2] at this
        omega
  · apply Nat.eq_of_testBit_eq
    intro i
    rw [Bool.eq_iff_iff, accCol_bit k (Nat.le_refl _), all_bit]
    exact ⟨fun h => h.1, fun h => ⟨h, h6 i h⟩⟩

/-- All that FnColors asks of a cover. -/
theorem cover_law {n : Int} {rs : List Int} (hv : isGraphB n rs = true) : coverB n rs (coverOf n rs) = true ∧ decide ((((coverOf n rs).length : Nat) : Int) < (listOf (largestV n rs fun S => indepB rs.length rs S)).length) = false := by
  obtain ⟨rfl, g⟩ := VG.of hv
  have h128 := g.pow.1
  have hc := cover_ok hv
  refine ⟨hc, decide_eq_false ?_⟩
  have hz : isSetB rs.length rs ((0 : Nat) : Int) = true := isSetB_mk hv (Nat.two_pow_pos _)
  have h0 : indepB rs.length rs ((0 : Nat) : Int) = true := by
    rw [indepB_nat hz]
    unfold indepN
    rw [Nat.and_zero]; rfl
  have ht := largestTo_top (p := fun S : Nat => indepB rs.length rs S) h0 (2 ^ rs.length)
  unfold largestV
  rw [if_pos hv]
  generalize largestTo (fun S : Nat => indepB rs.length rs S) (2 ^ rs.length) = K at *
  have hs : isSetB rs.length rs K = true := by
    cases e : isSetB rs.length rs K
    · rw [indepB_no e] at ht; cases ht
    · rfl
  rw [indepB_nat hs] at ht
  obtain ⟨-, -, S, e, hS⟩ := isSetB_true hs
  have e : K = S := Int.ofNat.inj e
  subst e
  rw [listOf_length (by omega)]
  have := indep_le g hS ht hc
  omega


end Go.Proofs.YtfkehmpckhmkbaaGreat
