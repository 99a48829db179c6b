/-
  IsPerfectObstacle on both sides. For at most 2^20 rows and list elements.
  Maximal cliques that follow one another: each set of vertices has a simple vertex. No conditions beyond that.
  l6Simplicial, EliminationOf and IsChordal of the reference. For at most 2^20 rows.
-/
import Derived.Test.YtfkehmpckhmkbaaGreatPkLawPerfect12
import Derived.Test.YtfkehmpckhmkbaaGreatPkLawPerfect16
import Derived.Test.YtfkehmpckhmkbaaGreatPkLawPerfect19
import Derived.Test.YtfkehmpckhmkbaaGreatPkLawPerfect22
import Derived.Test.YtfkehmpckhmkbaaGreatPkLawPerfect18
namespace Go.Proofs.YtfkehmpckhmkbaaGreat
open Go.RowKit

def perfB (n : Int) (rs l : List Int) : Bool := isGraphB n rs && (decide (l.length % 2 = 1) && (holeB n rs l || holeB rs.length (compl rs) l))
theorem perfB_no {n : Int} {rs l : List Int} (h : isGraphB n rs = false) : perfB n rs l = false := by unfold perfB; rw [h]; rfl
theorem perfB_even {n : Int} {rs l : List Int} (h : ¬l.length % 2 = 1) : perfB n rs l = false := by unfold perfB; rw [decide_eq_false h]; simp
theorem perfB_of {n : Int} {rs l : List Int} (h : isGraphB n rs = true) (h2 : l.length % 2 = 1) : perfB n rs l = (holeB n rs l || holeB rs.length (compl rs) l) := by unfold perfB; rw [h, decide_eq_true h2]; rfl

set_option maxRecDepth 100000 in
set_option maxHeartbeats 1000000 in
theorem specPerf_any (n : Int) (rs l : List Int) (ro lo : Option Addr) (rc lc : Nat) (w : World) (hr : IntsAt w ro rs) (hrl : rs.length ≤ 1048576) (hl : IntsAt w lo l) (hll : l.length ≤ 1048576) :
    Calls Tryz.prog 31 #[.agg #[.int .i64 n, .slice ro rs.length rc], .slice lo l.length lc] w fun e w' => e = .returned (.bool (perfB n rs l)) ∧ Below w.heap.size w w' := by
  go_enter Tryz.func31, Tryz.ntmps31
  go_wp2_with fail
  generalize hW : w.alloc _ = W1
  obtain ⟨hB, -, k0⟩ := alloc1 hW
  replace hr := hr.below hB
  replace hl := hl.below hB
  have hb0 := k0.lt
  have hc0 := k0.cell 0
  have hc1 := k0.cell 1
  simp at hc0 hc1
  clear hW k0
  have HhB := Lib.hid hB
  clear hB
  cases hv : isGraphB n rs
  · have HE := Lib.hid (perfB_no (l := l) hv)
    refine (specCompl_bad n rs ro rc W1 hr hrl hv).mono ?_
    rintro e w2 ⟨rfl, hB2⟩
    have hBB : Below w.heap.size w w2 := below_more' HhB.out hB2
    clear hB2
    have HhBB := Lib.hid hBB
    clear hBB
    go_wp2_with fail
    go_ret
    exact ⟨retB (by rw [HE.out]), HhBB.out.alloc HhBB.out.size _⟩
  · obtain ⟨rfl, g⟩ := VG.of hv
    refine (specCompl_any rs ro rc W1 hr hv).mono ?_
    rintro e w2 ⟨g1, c1, rfl, hB2, hI2⟩
    have hlt : w.heap.size < w2.heap.size := Nat.lt_of_lt_of_le hb0 hB2.size
    have y0 := (hB2.cell (p := ⟨w.heap.size, 0, none⟩) hb0).trans hc0
    have y1 := (hB2.cell (p := ⟨w.heap.size, 1, none⟩) hb0).trans hc1
    have hr2 := hr.below hB2
    have hl2 := hl.below hB2
    have hBB : Below w.heap.size w w2 := below_more' HhB.out hB2
    by_cases h2 : l.length % 2 = 1
    · have HE := Lib.hid (perfB_of (n := rs.length) hv h2)
      have d2 : ((l.length : Int) % 2 == 1) = true := by rw [beq_iff_eq]; omega
      clear h2 hB2
      have HhBB := Lib.hid hBB
      clear hBB
      go_wp2_with fail
      generalize hW3 : World.alloc _ _ = W3
      obtain ⟨hB3, -, k3⟩ := alloc1 hW3
      have x0 := k3.cell 0
      have x1 := k3.cell 1
      have xl := k3.lt
      simp at x0 x1
      have hI3 := hI2.below hB3
      have hl3 := hl2.below hB3
      have hB4 := below_more' HhBB.out hB3
      refine (Calls.later (Later.refl W3) (specIsHole_any rs.length rs l ro lo rc lc W3 (hr2.below hB3) hrl hl3 hll)).mono ?_
      rintro e w4 ⟨rfl, m, rfl⟩
      clear hW3 hB3 k3 d2
      have HhB4 := Lib.hid hB4
      clear hB4
      generalize w2.heap.size = B2 at *
      cases hh : holeB rs.length rs l
      · go_wp2_with fail
        have hc := specIsHole_any rs.length (compl rs) l g1 lo c1 lc m.w (hI3.later m) (by rw [compl_len]; exact hrl) (hl3.later m) hll
        rw [compl_len] at hc
        refine (Calls.later m hc).mono ?_
        rintro e w5 ⟨rfl, m, rfl⟩
        go_wp2_with fail
        go_ret
        exact ⟨retB (by rw [HE.out, hh]; rfl), below_later HhB4.out m⟩
      · go_wp2_with fail
        go_ret
        exact ⟨retB (by rw [HE.out, hh]; rfl), below_later HhB4.out m⟩
    · have HE := Lib.hid (perfB_even (n := rs.length) (rs := rs) h2)
      have d2 : ((l.length : Int) % 2 == 1) = false := by rw [beq_eq_false_iff_ne]; omega
      clear h2 hB2
      have HhBB := Lib.hid hBB
      clear hBB
      go_wp2_with fail
      go_ret
      exact ⟨retB (by rw [HE.out]), HhBB.out.alloc HhBB.out.size _⟩

set_option maxRecDepth 100000 in
set_option maxHeartbeats 1000000 in
theorem implPerf_any (n : Int) (rs l : List Int) (ro lo : Option Addr) (rc lc : Nat) (w : World) (hr : IntsAt w ro rs) (hrl : rs.length ≤ 1048576) (hl : IntsAt w lo l) (hll : l.length ≤ 1048576) (hcap : l.length ≤ lc) :
    Calls Tryz.prog 14 #[.agg #[.int .i64 n, .slice ro rs.length rc], .slice lo l.length lc] w fun e w' => e = .returned (.bool (perfB n rs l)) ∧ Below w.heap.size w w' := by
  go_enter Tryz.func14, Tryz.ntmps14
  go_wp2_with fail
  generalize hW : w.alloc _ = W1
  obtain ⟨hB, -, k0⟩ := alloc1 hW
  replace hr := hr.below hB
  replace hl := hl.below hB
  have hb0 := k0.lt
  have hc0 := k0.cell 0
  have hc1 := k0.cell 1
  simp at hc0 hc1
  clear hW k0
  have HhB := Lib.hid hB
  clear hB
  cases hv : isGraphB n rs
  · have HE := Lib.hid (perfB_no (l := l) hv)
    refine (implCompl_bad n rs ro rc W1 hr hrl hv).mono ?_
    rintro e w2 ⟨rfl, hB2⟩
    have hBB : Below w.heap.size w w2 := below_more' HhB.out hB2
    clear hB2
    have HhBB := Lib.hid hBB
    clear hBB
    go_wp2_with fail
    go_ret
    exact ⟨retB (by rw [HE.out]), HhBB.out.alloc HhBB.out.size _⟩
  · obtain ⟨rfl, g⟩ := VG.of hv
    refine (implCompl_any rs ro rc W1 hr hv).mono ?_
    rintro e w2 ⟨g1, c1, rfl, hB2, hI2⟩
    have hlt : w.heap.size < w2.heap.size := Nat.lt_of_lt_of_le hb0 hB2.size
    have y0 := (hB2.cell (p := ⟨w.heap.size, 0, none⟩) hb0).trans hc0
    have y1 := (hB2.cell (p := ⟨w.heap.size, 1, none⟩) hb0).trans hc1
    have hr2 := hr.below hB2
    have hl2 := hl.below hB2
    have hBB : Below w.heap.size w w2 := below_more' HhB.out hB2
    by_cases h2 : l.length % 2 = 1
    · have HE := Lib.hid (perfB_of (n := rs.length) hv h2)
      have d2 : ((l.length : Int) % 2 == 1) = true := by rw [beq_iff_eq]; omega
      clear h2 hB2
      have HhBB := Lib.hid hBB
      clear hBB
      go_wp2_with fail
      generalize hW3 : World.alloc _ _ = W3
      obtain ⟨hB3, -, k3⟩ := alloc1 hW3
      have x0 := k3.cell 0
      have x1 := k3.cell 1
      have xl := k3.lt
      simp at x0 x1
      have hI3 := hI2.below hB3
      have hl3 := hl2.below hB3
      have hB4 := below_more' HhBB.out hB3
      refine (Calls.later (Later.refl W3) (implIsHole_any rs.length rs l ro lo rc lc W3 (hr2.below hB3) hrl hl3 hll hcap)).mono ?_
      rintro e w4 ⟨rfl, m, rfl⟩
      clear hW3 hB3 k3 d2
      have HhB4 := Lib.hid hB4
      clear hB4
      generalize w2.heap.size = B2 at *
      cases hh : holeB rs.length rs l
      · go_wp2_with fail
        have hc := implIsHole_any rs.length (compl rs) l (some ⟨g1, 0, none⟩) lo c1 lc m.w (hI3.later m) (by rw [compl_len]; exact hrl) (hl3.later m) hll hcap
        rw [compl_len] at hc
        refine (Calls.later m hc).mono ?_
        rintro e w5 ⟨rfl, m, rfl⟩
        go_wp2_with fail
        go_ret
        exact ⟨retB (by rw [HE.out, hh]; rfl), below_later HhB4.out m⟩
      · go_wp2_with fail
        go_ret
        exact ⟨retB (by rw [HE.out, hh]; rfl), below_later HhB4.out m⟩
    · have HE := Lib.hid (perfB_even (n := rs.length) (rs := rs) h2)
      have d2 : ((l.length : Int) % 2 == 1) = false := by rw [beq_eq_false_iff_ne]; omega
      clear h2 hB2
      have HhBB := Lib.hid hBB
      clear hBB
      go_wp2_with fail
      go_ret
      exact ⟨retB (by rw [HE.out]), HhBB.out.alloc HhBB.out.size _⟩

end Go.Proofs.YtfkehmpckhmkbaaGreat

namespace Go.Proofs.YtfkehmpckhmkbaaGreat

theorem sub_bit {S v : Nat} (hS : S < 128) (hv : S.testBit v = true) (b : Nat) : (S - 2 ^ v).testBit b = (S.testBit b && decide (b ≠ v)) := by
  rw [← nDiff_minus hS (pow_sub hv), testBit_nDiff, Nat.testBit_two_pow]
  congr 1
  by_cases h : v = b
  · subst h; simp
  · rw [decide_eq_false h, decide_eq_true (show b ≠ v from fun e => h e.symm)]; rfl
theorem clique_iff {rs : List Int} (g : VG rs) {S : Nat} (hS : S < 2 ^ rs.length) : cliqueN rs S = true ↔ ∀ a b, S.testBit a = true → S.testBit b = true → a ≠ b → ad rs a b = true := by
  have hp := g.pow.1
  constructor
  · intro h a b ha hb hne
    unfold cliqueN at h
    rw [decide_eq_true_eq] at h
    have h1 := h a (testBit_lt hS ha)
    unfold cliqueBad at h1
    rw [ha, Bool.true_and, decide_eq_false_iff_not, Classical.not_not] at h1
    have h2 : (gn rs a &&& S).testBit b = (S - 2 ^ a).testBit b := by rw [h1]
    rw [sub_bit (by omega) ha, hb, Nat.testBit_and, hb, Bool.and_true, Bool.true_and, decide_eq_true (show b ≠ a from fun e => hne e.symm)] at h2
    exact h2
  · intro h
    refine cliqueN_ok fun v _ => ?_
    unfold cliqueBad
    cases hv : S.testBit v
    · rfl
    · rw [Bool.true_and, decide_eq_false_iff_not, Classical.not_not]
      refine Nat.eq_of_testBit_eq fun b => ?_
      rw [sub_bit (by omega) hv, Nat.testBit_and]
      cases hb : S.testBit b
      · rw [Bool.and_false, Bool.false_and]
      · rw [Bool.and_true, Bool.true_and]
        by_cases e : b = v
        · subst e
          have := ad_irr g b
          unfold ad at this
          rw [this, decide_eq_false (show ¬b ≠ b from fun h => h rfl)]
        · rw [decide_eq_true (show b ≠ v from e)]
          exact h v b hv hb (fun e2 => e e2.symm)

/-- A clique that no vertex can join. -/
def maxcB (rs : List Int) (S : Nat) : Bool := cliqueN rs S && decide (∀ v, v < rs.length → S.testBit v = true ∨ gn rs v &&& S ≠ S)
def mcN (rs : List Int) : List Nat := (List.range (2 ^ rs.length)).filter fun S => decide (1 ≤ S) && maxcB rs S
theorem mem_mcN {rs : List Int} {S : Nat} : S ∈ mcN rs ↔ S < 2 ^ rs.length ∧ 1 ≤ S ∧ maxcB rs S = true := by
  unfold mcN
  rw [List.mem_filter, List.mem_range, Bool.and_eq_true, decide_eq_true_eq]
theorem mcN_clique {rs : List Int} {S : Nat} (h : S ∈ mcN rs) : S < 2 ^ rs.length ∧ cliqueN rs S = true := by
  obtain ⟨h1, -, h3⟩ := mem_mcN.1 h
  unfold maxcB at h3
  rw [Bool.and_eq_true] at h3
  exact ⟨h1, h3.1⟩
theorem great {p : Nat → Prop} (N : Nat) : ∀ k, k ≤ N → ∀ S, N - k ≤ S → S < N → p S → ∃ T, T < N ∧ p T ∧ ∀ U, T < U → U < N → ¬p U := by
  intro k
  induction k with
  | zero => intro _ S h1 h2; omega
  | succ k ih =>
    intro hk S h1 h2 hp
    by_cases h : ∃ U, S < U ∧ U < N ∧ p U
    · obtain ⟨U, hU1, hU2, hU3⟩ := h
      exact ih (by omega) U (by omega) hU2 hU3
    · exact ⟨S, h2, hp, fun U hU1 hU2 hU3 => h ⟨U, hU1, hU2, hU3⟩⟩
theorem clique_more {rs : List Int} (g : VG rs) {S : Nat} (hS : S < 2 ^ rs.length) (h0 : 1 ≤ S) (hc : cliqueN rs S = true) : ∃ T, T ∈ mcN rs ∧ ∀ a, S.testBit a = true → T.testBit a = true := by
  obtain ⟨T, h1, ⟨h2, h3, h4⟩, h5⟩ := great (p := fun T => S ≤ T ∧ cliqueN rs T = true ∧ ∀ a, S.testBit a = true → T.testBit a = true) (2 ^ rs.length) (2 ^ rs.length) (Nat.le_refl _) S (by omega) hS ⟨Nat.le_refl _, hc, fun _ h => h⟩
  refine ⟨T, mem_mcN.2 ⟨h1, by omega, ?_⟩, h4⟩
  unfold maxcB
  rw [h3, Bool.true_and, decide_eq_true_eq]
  intro v hv
  cases hb : T.testBit v
  · refine .inr fun he => ?_
    have hlt : T ||| 2 ^ v < 2 ^ rs.length := Nat.or_lt_two_pow h1 (Nat.pow_lt_pow_right (by decide) hv)
    have hbit : ∀ a, (T ||| 2 ^ v).testBit a = true ↔ T.testBit a = true ∨ v = a := fun a => by rw [Nat.testBit_or, Nat.testBit_two_pow, Bool.or_eq_true, decide_eq_true_eq]
    have hgt : T < T ||| 2 ^ v := by
      refine Nat.lt_of_le_of_ne Nat.left_le_or fun e => ?_
      have : (T ||| 2 ^ v).testBit v = true := (hbit v).2 (.inr rfl)
      rw [← e, hb] at this; cases this
    have hva : ∀ a, T.testBit a = true → ad rs v a = true := fun a ha => by
      have : (gn rs v &&& T).testBit a = true := by rw [he]; exact ha
      rw [Nat.testBit_and, Bool.and_eq_true] at this
      exact this.1
    refine h5 _ hgt hlt ⟨Nat.le_trans h2 (Nat.le_of_lt hgt), (clique_iff g hlt).2 fun a b ha hb2 hne => ?_, fun a ha => (hbit a).2 (.inl (h4 a ha))⟩
    rcases (hbit a).1 ha with ha | rfl
    · rcases (hbit b).1 hb2 with hb2 | rfl
      · exact (clique_iff g h1).1 h3 a b ha hb2 hne
      · rw [ad_symm g]; exact hva a ha
    · rcases (hbit b).1 hb2 with hb2 | rfl
      · exact hva b hb2
      · exact absurd rfl hne
  · exact .inl rfl

/-- The maximal cliques in an order in which each vertex is in sets that follow one another. -/
structure IvlP (rs : List Int) (d : List Nat) : Prop where
  all : ∀ S, S ∈ mcN rs → S ∈ d
  only : ∀ S, S ∈ d → S ∈ mcN rs
  con : ∀ v i j k, i < j → j < k → k < d.length → (eln d i).testBit v = true → (eln d k).testBit v = true → (eln d j).testBit v = true
theorem IvlP.both {rs : List Int} {d : List Nat} (h : IvlP rs d) (g : VG rs) {i a b : Nat} (hi : i < d.length) (ha : (eln d i).testBit a = true) (hb : (eln d i).testBit b = true) : nb rs a b := by
  obtain ⟨h1, h2⟩ := mcN_clique (h.only _ (eln_mem hi))
  by_cases e : a = b
  · exact .inl e
  · exact .inr ((clique_iff g h1).1 h2 a b ha hb e)
theorem IvlP.share {rs : List Int} {d : List Nat} (h : IvlP rs d) (g : VG rs) {a b : Nat} (ha : a < rs.length) (hb : b < rs.length) (hn : nb rs a b) : ∃ i, i < d.length ∧ (eln d i).testBit a = true ∧ (eln d i).testBit b = true := by
  have hlt : 2 ^ a ||| 2 ^ b < 2 ^ rs.length := Nat.or_lt_two_pow (Nat.pow_lt_pow_right (by decide) ha) (Nat.pow_lt_pow_right (by decide) hb)
  have hbit : ∀ x, (2 ^ a ||| 2 ^ b).testBit x = true ↔ a = x ∨ b = x := fun x => by rw [Nat.testBit_or, Nat.testBit_two_pow, Nat.testBit_two_pow, Bool.or_eq_true, decide_eq_true_eq, decide_eq_true_eq]
  have hpos : 1 ≤ 2 ^ a ||| 2 ^ b := Nat.le_trans (Nat.two_pow_pos a) Nat.left_le_or
  obtain ⟨T, hT, hs⟩ := clique_more g hlt hpos ((clique_iff g hlt).2 fun x y hx hy hne => by
    rcases (hbit x).1 hx with rfl | rfl
    · rcases (hbit y).1 hy with rfl | rfl
      · exact absurd rfl hne
      · exact hn.resolve_left hne
    · rcases (hbit y).1 hy with rfl | rfl
      · rw [ad_symm g]; exact hn.resolve_left fun e => hne e.symm
      · exact absurd rfl hne)
  obtain ⟨i, hi, rfl⟩ := mem_eln (h.all T hT)
  exact ⟨i, hi, hs a ((hbit a).2 (.inl rfl)), hs b ((hbit b).2 (.inr rfl))⟩
theorem least_of {p : Nat → Prop} : ∀ n, p n → ∃ t, t ≤ n ∧ p t ∧ ∀ s, s < t → ¬p s := by
  intro n
  induction n using Nat.strongRecOn with
  | _ n ih =>
    intro h
    by_cases h1 : ∃ m, m < n ∧ p m
    · obtain ⟨m, hm, hp⟩ := h1
      obtain ⟨t, h2, h3, h4⟩ := ih m hm hp
      exact ⟨t, by omega, h3, h4⟩
    · exact ⟨n, Nat.le_refl _, h, fun s hs hp => h1 ⟨s, hs, hp⟩⟩
/-- The vertex that ends first is simple. -/
theorem IvlP.simple {rs : List Int} {d : List Nat} (h : IvlP rs d) (g : VG rs) {S : Nat} (h0 : 0 < S) (hS : S < 2 ^ rs.length) : ∃ v, v < rs.length ∧ S.testBit v = true ∧ simpleN rs S v = true := by
  have hlt : ∀ v, S.testBit v = true → v < rs.length := fun v hv => testBit_lt hS hv
  obtain ⟨v0, hv0⟩ : ∃ v, S.testBit v = true := Nat.exists_testBit_of_ne_zero (by omega)
  have hhas : ∀ v, S.testBit v = true → ∃ i, i < d.length ∧ (eln d i).testBit v = true := fun v hv => by
    obtain ⟨i, hi, h1, -⟩ := h.share g (hlt v hv) (hlt v hv) (.inl rfl)
    exact ⟨i, hi, h1⟩
  obtain ⟨t, -, ⟨v, hv, ht⟩, hmin⟩ := least_of (p := fun t => ∃ v, S.testBit v = true ∧ ∀ i, t < i → i < d.length → (eln d i).testBit v = false) d.length ⟨v0, hv0, fun i h1 h2 => by omega⟩
  -- all vertices of the set have a place from t on
  have hfrom : ∀ x, S.testBit x = true → ∃ i, t ≤ i ∧ i < d.length ∧ (eln d i).testBit x = true := fun x hx => by
    rcases Nat.eq_zero_or_pos t with h1 | h1
    · obtain ⟨i, hi, h2⟩ := hhas x hx
      exact ⟨i, by omega, hi, h2⟩
    · refine Classical.byContradiction fun hno => hmin (t - 1) (by omega) ⟨x, hx, fun i hi1 hi2 => ?_⟩
      cases hb : (eln d i).testBit x
      · rfl
      · exact absurd ⟨i, by omega, hi2, hb⟩ hno
  have htl : t < d.length := by obtain ⟨i, h1, h2, -⟩ := hfrom v hv; omega
  -- what has a place up to t is at t
  have hat : ∀ x i, S.testBit x = true → i ≤ t → (eln d i).testBit x = true → (eln d t).testBit x = true := fun x i hx hi hb => by
    obtain ⟨j, hj1, hj2, hj3⟩ := hfrom x hx
    rcases Nat.lt_or_ge i t with h1 | h1
    · rcases Nat.lt_or_ge t j with h2 | h2
      · exact h.con x i t j h1 h2 hj2 hb hj3
      · obtain rfl : t = j := by omega
        exact hj3
    · obtain rfl : i = t := by omega
      exact hb
  have hnb : ∀ a, S.testBit a = true → nb rs v a → (eln d t).testBit a = true := fun a ha hn => by
    obtain ⟨i, hi, h1, h2⟩ := h.share g (hlt v hv) (hlt a ha) hn
    refine hat a i ha (Classical.byContradiction fun h3 => ?_) h2
    rw [ht i (by omega) hi] at h1; cases h1
  refine ⟨v, hlt v hv, hv, (simple_iff g hS).2 fun a b ha hb hva hvb => ?_⟩
  have ha' := hnb a ha hva
  have hb' := hnb b hb hvb
  -- a common place of a and a neighbour that is none of b's lies behind t
  have key : ∀ a b x, S.testBit a = true → S.testBit b = true → S.testBit x = true → (eln d t).testBit a = true → (eln d t).testBit b = true → nb rs a x → ¬nb rs b x → ∃ i, t < i ∧ i < d.length ∧ (eln d i).testBit a = true ∧ (eln d i).testBit x = true := fun a b x ha hb hx hta htb h1 h2 => by
    obtain ⟨i, hi, h3, h4⟩ := h.share g (hlt a ha) (hlt x hx) h1
    refine ⟨i, Classical.byContradiction fun h5 => h2 (h.both g htl htb (hat x i hx (by omega) h4)), hi, h3, h4⟩
  by_cases hab : ∀ c, S.testBit c = true → nb rs a c → nb rs b c
  · exact .inl hab
  · refine .inr fun y hy hby => Classical.byContradiction fun hay => hab fun x hx hax => Classical.byContradiction fun hbx => ?_
    obtain ⟨i, hi1, hi2, hi3, hi4⟩ := key a b x ha hb hx ha' hb' hax hbx
    obtain ⟨j, hj1, hj2, hj3, hj4⟩ := key b a y hb ha hy hb' ha' hby hay
    rcases Nat.lt_trichotomy i j with h1 | h1 | h1
    · exact hbx (h.both g hi2 (h.con b t i j hi1 h1 hj2 hb' hj3) hi4)
    · subst h1; exact hbx (h.both g hi2 hj3 hi4)
    · exact hay (h.both g hj2 (h.con a t j i hj1 h1 hi2 ha' hi3) hj4)
/-- Such a graph has a simple order. -/
theorem IvlP.order {rs : List Int} {d : List Nat} (h : IvlP rs d) (hv : isGraphB rs.length rs = true) : (ordV rs.length rs).isSome = true := by
  refine ord_of hv fun S h0 hS => ?_
  obtain ⟨v, h1, h2, h3⟩ := h.simple (VG.of hv).2 h0 hS
  refine ⟨v, h1, ?_⟩
  unfold simpleB
  rw [isSetB_mk hv hS, Int.toNat_natCast, Int.toNat_natCast, h3, hasN_nat, h2]
  simp; omega

/-- Different members of a list, as many as it has: all of them. -/
theorem full_of_nodup : ∀ (d l : List Nat), d.Nodup → (∀ x ∈ d, x ∈ l) → l.length ≤ d.length → ∀ x ∈ l, x ∈ d
  | [], l, _, _, h, x, hx => by
    have : l = [] := List.length_eq_zero_iff.1 (by simpa using h)
    subst this; simp at hx
  | a :: d, l, hd, hs, h, x, hx => by
    by_cases e : x = a
    · subst e; simp
    · obtain ⟨h1, h2⟩ := List.nodup_cons.1 hd
      refine List.mem_cons_of_mem _ (full_of_nodup d (l.erase a) h2 (fun y hy => (List.mem_erase_of_ne fun e2 => h1 (by rw [← e2]; exact hy)).2 (hs y (List.mem_cons_of_mem _ hy))) ?_ x ((List.mem_erase_of_ne e).2 hx))
      rw [List.length_erase_of_mem (hs a (by simp))]
      simp at h; omega

end Go.Proofs.YtfkehmpckhmkbaaGreat

namespace Go.Proofs.YtfkehmpckhmkbaaGreat
open Go.RowKit

/-- The least vertex of a set of which something holds. -/
def leastP (p : Nat → Nat → Bool) (N S : Nat) : Option Nat := firstB (fun v => p S v) N
/-- Such vertices, taken away one by one. -/
def takeF (p : Nat → Nat → Bool) (N : Nat) : Nat → Nat → List Int → Option (List Int)
  | 0, _, out => some out
  | f + 1, S, out => if S = 0 then some out else match leastP p N S with | none => none | some v => takeF p N f (S - 2 ^ v) (out ++ [(v : Int)])
theorem takeF_zero {p : Nat → Nat → Bool} {N : Nat} (f : Nat) (out : List Int) : takeF p N f 0 out = some out := by cases f <;> rfl
theorem takeF_none {p : Nat → Nat → Bool} {N f S : Nat} {out : List Int} (hS : S ≤ f) (h0 : 0 < S) (h : leastP p N S = none) : takeF p N f S out = none := by
  obtain ⟨f, rfl⟩ : ∃ f', f = f' + 1 := ⟨f - 1, by omega⟩
  show (if S = 0 then some out else _) = none
  rw [if_neg (by omega), h]
theorem takeF_some {p : Nat → Nat → Bool} {N f S v : Nat} {out : List Int} (hS : S ≤ f) (h0 : 0 < S) (h : leastP p N S = some v) : takeF p N f S out = takeF p N (f - 1) (S - 2 ^ v) (out ++ [(v : Int)]) := by
  obtain ⟨f, rfl⟩ : ∃ f', f = f' + 1 := ⟨f - 1, by omega⟩
  show (if S = 0 then some out else _) = _
  rw [if_neg (by omega), h]; rfl
theorem takeF_len {p : Nat → Nat → Bool} {N : Nat} : ∀ (f S : Nat) (out : List Int), ((takeF p N f S out).getD []).length ≤ out.length + f := by
  intro f
  induction f with
  | zero => intro S out; simp [takeF]
  | succ f ih =>
    intro S out
    show ((if S = 0 then some out else (match leastP p N S with | none => none | some v => takeF p N f (S - 2 ^ v) (out ++ [(v : Int)]))).getD []).length ≤ _
    split
    · simp
    · split
      · simp
      · rename_i v _
        have := ih (S - 2 ^ v) (out ++ [(v : Int)])
        simp at this; omega
theorem DownTo.leastP {p : Nat → Nat → Bool} {N S : Nat} {b : Int} (h : DownTo (fun v => p S v) N 0 b) : (b = -1 ∧ leastP p N S = none) ∨ ∃ k : Nat, b = k ∧ leastP p N S = some k := by
  rcases h with ⟨h1, h2⟩ | ⟨k, h1, h2, h3, h4, h5⟩
  · exact .inl ⟨h1, firstB_none fun j hj => h2 j (by omega) hj⟩
  · exact .inr ⟨k, h1, firstB_hit h3 (fun j hj => h5 j (by omega) hj) h4⟩

/-- A vertex whose neighbours within a set are a clique. -/
def splB (rs : List Int) (S v : Nat) : Bool := S.testBit v && cliqueN rs (gn rs v &&& S)
def elimV (n : Int) (rs : List Int) : Option (List Int) := if isGraphB n rs = true then takeF (splB rs) rs.length (2 ^ rs.length - 1) (2 ^ rs.length - 1) [] else none
theorem elimV_no {n : Int} {rs : List Int} (h : isGraphB n rs = false) : elimV n rs = none := by unfold elimV; rw [h]; rfl
theorem elimV_of {n : Int} {rs : List Int} (h : isGraphB n rs = true) : elimV n rs = takeF (splB rs) rs.length (2 ^ rs.length - 1) (2 ^ rs.length - 1) [] := by unfold elimV; rw [if_pos h]
theorem elimV_len (n : Int) (rs : List Int) : ((elimV n rs).getD []).length ≤ 1048576 := by
  unfold elimV; split
  · rename_i h
    have := takeF_len (p := splB rs) (N := rs.length) (2 ^ rs.length - 1) (2 ^ rs.length - 1) []
    have := (VG.of h).2.pow.1
    simp at *; omega
  · simp
theorem splB_left {rs : List Int} {S v : Nat} (h : leastP (splB rs) rs.length S = some v) : v < rs.length ∧ S.testBit v = true ∧ 2 ^ v ≤ S ∧ 0 < 2 ^ v := by
  unfold leastP firstB at h
  have h1 := List.find?_some h
  have h2 := List.mem_of_find?_eq_some h
  unfold splB at h1
  rw [Bool.and_eq_true] at h1
  exact ⟨by simpa using h2, h1.1, Nat.ge_two_pow_of_testBit h1.1, Nat.two_pow_pos _⟩
def chordalB (n : Int) (rs : List Int) : Bool := (elimV n rs).isSome

set_option maxRecDepth 100000 in
set_option maxHeartbeats 1000000 in
theorem l6Simplicial_any (rs : List Int) (S v : Nat) (ro : Option Addr) (rc : Nat) (w : World) (hr : IntsAt w ro rs) (hv : isGraphB rs.length rs = true) (hS : S < 2 ^ rs.length) (hlt : v < rs.length) :
    Calls Tryz.prog 76 #[.agg #[.int .i64 rs.length, .slice ro rs.length rc], .int .i64 v, .int .i64 S] w fun e w' => e = .returned (.bool (cliqueN rs (gn rs v &&& S))) ∧ Below w.heap.size w w' := by
  obtain ⟨-, g⟩ := VG.of hv
  have hg2 := g.le
  have hp := g.pow.1
  have hl := g.lt v hlt
  have q4 : gn rs v &&& S < 2 ^ rs.length := Nat.lt_of_le_of_lt Nat.and_le_right hS
  have hI := isSetB_mk hv q4
  have HC := fun w ro rc hr => specIsClique_any rs.length rs ((gn rs v &&& S : Nat) : Int) ro rc w hr (by omega)
  rw [cliqueB_nat hI] at HC
  have q2 : bits .and .i64 (gn rs v : Int) (S : Int) = ((gn rs v &&& S : Nat) : Int) := bits_and_nat _ _ (by omega) (by omega)
  obtain ⟨rb, rofs, rfl, hrb, hrc⟩ := hr.graph g
  have hvc := hrc v hlt
  clear hrc hI hv
  go_enter Tryz.func76, Tryz.ntmps76
  go_wp2_with fail
  generalize hW : w.alloc _ = W1
  obtain ⟨hB, -, k0⟩ := alloc1 hW
  replace hr := hr.below hB
  have hvc1 : W1.cell? ⟨rb, rofs + v, none⟩ = _ := (hB.cell hrb).trans hvc
  have hrb1 : rb < W1.heap.size := Nat.lt_of_lt_of_le hrb hB.size
  have hb0 := k0.lt
  have hc0 := k0.cell 0
  have hc1 := k0.cell 1
  simp at hc0 hc1
  have HhB := Lib.hid hB
  clear hB hW k0 hvc hrb
  generalize hCC : cliqueN rs (gn rs v &&& S) = C at HC
  generalize gn rs v &&& S = A at HC q2
  have hcl := fun m : Later W1 => HC m.w _ rc (hr.later m)
  clear HC
  obtain ⟨m, hm0⟩ : ∃ m : Later W1, m.w = W1 := ⟨Later.refl _, rfl⟩
  refine (fun h => hm0 ▸ h) ?_
  clear hm0
  refine wp_region_later m rfl (by kernel_rfl) (by kernel_rfl) ?_
  repeat (go_big_quiet_step ((first | (go_at_call 74; exact Calls.later _ (hcl _)))))
  refine wpQuiet_nil ?_
  rintro _ ⟨m, rfl⟩
  go_wp2_with fail
  go_ret
  exact ⟨by simp [hCC], below_later HhB.out m⟩

set_option maxRecDepth 100000 in
set_option maxHeartbeats 2000000 in
theorem specElim_any (n : Int) (rs : List Int) (ro : Option Addr) (rc : Nat) (w : World) (hr : IntsAt w ro rs) (hrl : rs.length ≤ 1048576) :
    Calls Tryz.prog 48 #[.agg #[.int .i64 n, .slice ro rs.length rc]] w (RetI w (elimV n rs)) := by
  go_enter Tryz.func48, Tryz.ntmps48
  go_wp2_with fail
  generalize hW : w.alloc _ = W1
  obtain ⟨hB, -, k0⟩ := alloc1 hW
  replace hr := hr.below hB
  have hb0 := k0.lt
  have hc0 := k0.cell 0
  have hc1 := k0.cell 1
  simp at hc0 hc1
  clear hW k0
  have HhB := Lib.hid hB
  clear hB
  generalize hW2 : W1.alloc _ = W2
  obtain ⟨hB2, -, -⟩ := alloc1 hW2
  replace hr := hr.below hB2
  replace hc0 := (hB2.cell (p := ⟨w.heap.size, 0, none⟩) hb0).trans hc0
  replace hc1 := (hB2.cell (p := ⟨w.heap.size, 1, none⟩) hb0).trans hc1
  replace hb0 := Nat.lt_of_lt_of_le hb0 hB2.size
  replace HhB := Lib.hid (below_more' HhB.out hB2)
  clear hB2 hW2
  have hO := OwnE.empty W2 W2.heap.size ⟨w.heap.size + 1, 0, none⟩
  generalize (⟨w.heap.size + 1, 0, none⟩ : Addr) = na at *
  obtain ⟨m, hm0⟩ : ∃ m : Later W2, m.w = W2 := ⟨Later.refl _, rfl⟩
  refine (fun h => hm0 ▸ h) ?_
  clear hm0
  cases hv : isGraphB n rs
  · have HE := Lib.hid (elimV_no hv)
    go_wp2_with (first | (go_at_call 13; refine (Calls.later m (specIsGraph_any _ _ _ _ _ (hr.later m) hrl)).mono ?_; rintro e w' ⟨rfl, m, rfl⟩))
    go_ret2
    exact ⟨_, _, by rw [HE.out]; rfl, below_later HhB.out m, by rw [HE.out]; exact fun h => absurd h (by simp)⟩
  · have HE := Lib.hid (elimV_of hv)
    have Hhv := Lib.hid hv
    obtain ⟨rfl, g⟩ := VG.of hv
    have hg1 := g.pos
    have hg2 := g.le
    obtain ⟨hp1, hp2⟩ := g.pow
    have hp4 : 2 ^ rs.length - 1 < 2 ^ rs.length := by omega
    generalize hFull : 2 ^ rs.length - 1 = full at *
    have hp3 : wrap64 (pwN rs.length - 1) = (full : Int) := by
      rw [pwN_small _ (by omega), show ((2 ^ rs.length : Nat) : Int) - 1 = (full : Int) by omega]
      simp only [wrap64]
      omega
    have HhO := Lib.hid hO
    clear hO
    have Hhp4 := Lib.hid hp4
    clear hp4
    go_wp2_with (first | (go_at_call 13; refine (Calls.later m (specIsGraph_any _ _ _ _ _ (hr.later m) hrl)).mono ?_; rintro e w' ⟨rfl, m, rfl⟩))
    simp only [hp3]
    clear hp3
    go_loopw [4, 5] (fun o l wr => ∃ m : Later W2, wr = m.w ∧ ∃ (f S : Nat) (xs : List Int) (ao : Option Addr) (cap : Nat), S ≤ f ∧ S < 2 ^ rs.length ∧ xs.length + f ≤ 128 ∧ l = .int .i64 S ∧ o = .slice ao xs.length cap ∧ OwnE m.w W2.heap.size ao cap xs ∧ takeF (splB rs) rs.length full full [] = takeF (splB rs) rs.length f S xs) (fun _ l _ => (intOf l).toNat)
    case atStart => exact ⟨m, rfl, full, full, [], _, _, Nat.le_refl _, Hhp4.out, by simp; omega, rfl, rfl, HhO.out.later m, rfl⟩
    case round =>
      obtain ⟨m, rfl, f, S, xs, ao, cap, hSf, hS, hlen, rfl, rfl, hO, hV⟩ := hrel
      by_cases h0 : 0 < S
      · have d0 : decide (0 < (S : Int)) = true := decide_eq_true (by omega)
        have HW : ∀ m2 : Later m.w, ∃ m' : Later W2, m'.w = m2.w := fun m2 => ⟨m.on m2.below, rfl⟩
        have hms := m.size
        have HhO := Lib.hid hO
        clear hO
        have HhV := Lib.hid hV
        clear hV
        have HhSf := Lib.hid hSf
        clear hSf
        have Hhlen := Lib.hid hlen
        clear hlen
        have HHW := Lib.hid HW
        clear HW
        replace hr := hr.later m
        replace hc0 : m.w.cell? _ = _ := (m.cell _ _ hb0).trans hc0
        replace hc1 : m.w.cell? _ = _ := (m.cell _ _ hb0).trans hc1
        replace hb0 := Nat.lt_of_lt_of_le hb0 m.size
        replace HhB := Lib.hid (below_later HhB.out m)
        generalize m.w = W3 at *
        clear m
        obtain ⟨m, hm0⟩ : ∃ m : Later W3, m.w = W3 := ⟨Later.refl _, rfl⟩
        refine (fun h => hm0 ▸ h) ?_
        clear hm0
        go_wp2_with fail
        go_loopw [6, 7] (fun b i wr => (∃ m : Later W3, wr = m.w) ∧ ∃ (j : Nat) (bi : Int), j ≤ rs.length ∧ i = .int .i64 ((j : Int) - 1) ∧ b = .int .i64 bi ∧ DownTo (fun v => splB rs S v) rs.length j bi) (fun _ i _ => (intOf i + 1).toNat)
        case atStart => exact ⟨⟨m, rfl⟩, rs.length, -1, Nat.le_refl _, by go_num, rfl, DownTo.start _ _⟩
        case round =>
          obtain ⟨⟨m, rfl⟩, j, bi, hj, rfl, rfl, hD⟩ := hrel
          have hb1 := hD.lo
          rcases j with _ | j
          · rcases hD.leastP with ⟨rfl, hL⟩ | ⟨k, rfl, hL⟩
            · have HE2 := Lib.hid (HE.out.trans (HhV.out.trans (takeF_none HhSf.out h0 hL)))
              clear hD hL
              go_wp2_with fail
              go_ret2
              exact ⟨_, _, by rw [HE2.out]; rfl, (below_later HhB.out m).alloc (below_later HhB.out m).size _, by rw [HE2.out]; exact fun h => absurd h (by simp)⟩
            · obtain ⟨hk1, hk2, hk3, hk4⟩ := splB_left hL
              have HN := Lib.hid (HhV.out.trans (takeF_some HhSf.out h0 hL))
              have hl7 : xs.length ≤ 1048576 := by have := Hhlen.out; omega
              have hms3 := m.size
              have hq : wrap64 ((S : Int) - pwN k) = ((S - 2 ^ k : Nat) : Int) := by
                rw [pwN_small _ (by omega), show (S : Int) - ((2 ^ k : Nat) : Int) = ((S - 2 ^ k : Nat) : Int) by omega]
                simp only [wrap64]
                omega
              have hS2 : S - 2 ^ k < S := by omega
              generalize S - 2 ^ k = S2 at *
              clear hD hL hk2
              go_wp2_with (at_builtin; go_must (refine wpList_append_e rfl _ _ rfl W2.heap.size cap ao xs (k : Int) rfl (HhO.out.later m) rfl (by omega) (by omega) ?_); intro ao' cap' w1 hown1 hB1)
              go_roundw
              case rel =>
                obtain ⟨m', e⟩ := HHW.out m
                exact ⟨⟨w1, m'.below.trans (e.symm ▸ hB1)⟩, rfl, f - 1, S2, xs ++ [(k : Int)], ao', cap', by have := HhSf.out; omega, by omega, by have := Hhlen.out; have := HhSf.out; simp; omega, by rw [hq], by simp, hown1, HN.out⟩
              case measure => simp [intOf]; omega
          · have hjl : j < rs.length := by omega
            have HNo := Lib.hid (fun h => DownTo.no hD h)
            have HYes := Lib.hid (fun h => DownTo.yes (p := fun v => splB rs S v) hjl h)
            have HSpl : Hid (splB rs S j = (S.testBit j && cliqueN rs (gn rs j &&& S))) := Lib.hid rfl
            have hq : ((j + 1 : Nat) : Int) - 1 = (j : Int) := by omega
            have hq2 : IntKind.i64.wrap ((j : Int) - 1) = (j : Int) - 1 := IntKind_i64_in _ (by omega) (by omega)
            simp only [hq]
            clear hD
            cases hb : S.testBit j
            · have hb' : hasN (S : Int) j = false := by rw [hasN_nat]; exact hb
              rw [hb] at HSpl
              clear hb
              go_wp2_with fail
              go_roundw
              case rel => exact ⟨⟨m, rfl⟩, j, bi, by omega, by go_num, rfl, HNo.out HSpl.out⟩
              case measure => simp [intOf]
            · have hb' : hasN (S : Int) j = true := by rw [hasN_nat]; exact hb
              have hC := fun m : Later W3 => l6Simplicial_any rs S j ro rc m.w (hr.later m) Hhv.out hS hjl
              rw [hb, Bool.true_and] at HSpl
              clear hb
              cases hc : cliqueN rs (gn rs j &&& S)
              · rw [hc] at hC HSpl
                go_wp2_with (first | (go_at_call 76; refine (Calls.later m (hC m)).mono ?_; rintro e w' ⟨rfl, m, rfl⟩))
                go_roundw
                case rel => exact ⟨⟨m, rfl⟩, j, bi, by omega, by go_num, rfl, HNo.out HSpl.out⟩
                case measure => simp [intOf]
              · rw [hc] at hC HSpl
                go_wp2_with (first | (go_at_call 76; refine (Calls.later m (hC m)).mono ?_; rintro e w' ⟨rfl, m, rfl⟩))
                go_roundw
                case rel => exact ⟨⟨m, rfl⟩, j, (j : Int), by omega, by go_num, rfl, HYes.out HSpl.out⟩
                case measure => simp [intOf]
      · obtain rfl : S = 0 := by omega
        have HE2 := Lib.hid (HE.out.trans (hV.trans (takeF_zero f xs)))
        have hX := hO.ints
        clear hV hO
        go_wp2_with fail
        go_ret2
        exact ⟨ao, cap, by rw [HE2.out]; rfl, below_later HhB.out m, by rw [HE2.out]; exact hX⟩

set_option maxHeartbeats 1000000 in
theorem specChordal_any (n : Int) (rs : List Int) (ro : Option Addr) (rc : Nat) (w : World) (hr : IntsAt w ro rs) (hrl : rs.length ≤ 1048576) :
    Calls Tryz.prog 21 #[.agg #[.int .i64 n, .slice ro rs.length rc]] w fun e w' => e = .returned (.bool (chordalB n rs)) ∧ Below w.heap.size w w' := by
  go_enter Tryz.func21, Tryz.ntmps21
  go_wp2_with fail
  generalize hW : w.alloc _ = W1
  obtain ⟨hB, -, k0⟩ := alloc1 hW
  replace hr := hr.below hB
  have hb0 := k0.lt
  have hc0 := k0.cell 0
  have hc1 := k0.cell 1
  simp at hc0 hc1
  clear hW k0
  have HhB := Lib.hid hB
  clear hB
  refine (specElim_any n rs ro rc W1 hr hrl).mono ?_
  rintro e w2 ⟨ao, cap, rfl, hB2, -⟩
  have HE : Hid (chordalB n rs = (elimV n rs).isSome) := rfl
  have hBB := below_more' HhB.out hB2
  clear hB2
  generalize elimV n rs = O at *
  have HhBB := Lib.hid hBB
  clear hBB
  go_wp2_with fail
  go_ret
  exact ⟨retB HE.out.symm, HhBB.out⟩

end Go.Proofs.YtfkehmpckhmkbaaGreat
