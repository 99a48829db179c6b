/-
  Plain laws of a graph's matchings and covers: the edges as pairs; the least cover; the largest matching is a matching of the graph. No program.
  The laws' own test that two lists are the same. The lists have at most 2^47 elements.
  HasEdge on both sides; lists of lists as slices; IsMatching on both sides; the laws' test that two lists of lists are the same. For at most 2^20 rows and lists.
  ForcedArcs of the reference: an arc and all that it forces. For at most 2^20 rows.
  The forcing of arcs: it goes back and turns round; in a hole of five vertices each arc forces its opposite. No conditions.
-/
import Derived.Test.YtfkehmpckhmkbaaGreatPkLawPerfect35
import Derived.Test.YtfkehmpckhmkbaaGreatPkLawPerfect31
import Derived.Test.YtfkehmpckhmkbaaGreatPkLawPerfect01
import Derived.Test.YtfkehmpckhmkbaaGreatPkLawPerfect34
import Derived.Test.YtfkehmpckhmkbaaGreatPkLawPerfect25
import Derived.Test.YtfkehmpckhmkbaaGreatPkLawPerfect18
import Derived.BigQuiet
import Derived.Test.YtfkehmpckhmkbaaGreatPkLawPerfect33
namespace Go.Proofs.YtfkehmpckhmkbaaGreat
open Go.RowKit

theorem edge_mem {rs : List Int} {e : Nat × Nat} : e ∈ edgesTo rs rs.length ↔ e.1 < e.2 ∧ e.2 < rs.length ∧ (gn rs e.1).testBit e.2 = true := by
  rw [mem_edgesTo]
  constructor
  · rintro ⟨h1, h2, h3, h4⟩; exact ⟨h2, by omega, h4⟩
  · rintro ⟨h1, h2, h3⟩; exact ⟨by omega, h1, by omega, h3⟩
theorem indep_iff {rs : List Int} {S : Nat} (hS : S < 128) : indepN rs S = true ↔ ∀ a b, S.testBit a = true → S.testBit b = true → (gn rs a).testBit b = false := by
  unfold indepN
  rw [decide_eq_true_eq, and_zero]
  constructor
  · intro h a b ha hb
    cases e : (gn rs a).testBit b
    · rfl
    · have := h b ((nbrs_bit hS).2 ⟨a, ha, e⟩)
      rw [hb] at this; cases this
  · intro h i hi
    obtain ⟨a, h1, h2⟩ := (nbrs_bit hS).1 hi
    cases e : S.testBit i
    · rfl
    · rw [h a i h1 e] at h2; cases h2
theorem rest_bit {C N i : Nat} (hC : C < 2 ^ N) (hN : N ≤ 7) : (2 ^ N - 1 - C).testBit i = true ↔ i < N ∧ C.testBit i = false := by
  have : 2 ^ N ≤ 2 ^ 7 := Nat.pow_le_pow_right (by decide) hN
  rw [← nDiff_minus (by omega) (sub_all hC), nDiff_bit, all_bit]
/-- The covers of a graph are those of its edges. -/
theorem cov_iff {rs : List Int} {C : Nat} (hv : isGraphB rs.length rs = true) (hC : C < 2 ^ rs.length) : covB rs.length rs C = true ↔ coversE (edgesTo rs rs.length) C := by
  have g := (VG.of hv).2
  have h128 := g.pow.1
  have hall := all_lt rs.length
  rw [covB_nat (isSetB_mk hv hC), indepB_nat (isSetB_mk hv (by omega)), indep_iff (by omega)]
  constructor
  · intro h e he
    obtain ⟨h1, h2, h3⟩ := edge_mem.1 he
    cases q1 : C.testBit e.1
    · cases q2 : C.testBit e.2
      · have := h e.1 e.2 ((rest_bit hC g.le).2 ⟨by omega, q1⟩) ((rest_bit hC g.le).2 ⟨h2, q2⟩)
        rw [h3] at this; cases this
      · exact .inr rfl
    · exact .inl rfl
  · intro h a b ha hb
    obtain ⟨a1, a2⟩ := (rest_bit hC g.le).1 ha
    obtain ⟨b1, b2⟩ := (rest_bit hC g.le).1 hb
    cases e : (gn rs a).testBit b
    · rfl
    · exfalso
      rcases Nat.lt_trichotomy a b with q | rfl | q
      · rcases h (a, b) (edge_mem.2 ⟨q, b1, e⟩) with h | h
        · rw [a2] at h; cases h
        · rw [b2] at h; cases h
      · rw [g.irr a a1] at e; cases e
      · rw [g.sym a a1 b b1] at e
        rcases h (b, a) (edge_mem.2 ⟨q, a1, e⟩) with h | h
        · rw [b2] at h; cases h
        · rw [a2] at h; cases h

theorem fewestTo_min {p : Nat → Bool} : ∀ k, (∃ S, S < k ∧ p S = true) → ∃ D : Nat, D < k ∧ fewestTo p k = (D : Int) ∧ p D = true ∧ ∀ T, T < k → p T = true → cnt D ≤ cnt T
  | 0, ⟨S, h, _⟩ => by omega
  | k + 1, ⟨S, h, hS⟩ => by
    by_cases he : ∃ S, S < k ∧ p S = true
    · obtain ⟨D, d1, d2, d3, d4⟩ := fewestTo_min k he
      cases hp : p k
      · refine ⟨D, by omega, by rw [fewestTo_skip hp]; exact d2, d3, fun T hT ht => ?_⟩
        rcases Nat.lt_succ_iff_lt_or_eq.1 hT with h | rfl
        · exact d4 T h ht
        · rw [hp] at ht; cases ht
      · by_cases hc : cnt k < cnt D
        · refine ⟨k, by omega, fewestTo_new hp (.inr (by rw [d2, Int.toNat_natCast]; exact hc)), hp, fun T hT ht => ?_⟩
          rcases Nat.lt_succ_iff_lt_or_eq.1 hT with h | rfl
          · have := d4 T h ht; omega
          · exact Nat.le_refl _
        · refine ⟨D, by omega, by rw [fewestTo_keep d2 hc]; exact d2, d3, fun T hT ht => ?_⟩
          rcases Nat.lt_succ_iff_lt_or_eq.1 hT with h | rfl
          · exact d4 T h ht
          · omega
    · obtain rfl : S = k := by
        by_cases e : S < k
        · exact absurd ⟨S, e, hS⟩ he
        · omega
      have h0 : fewestTo p S = -1 := by
        have : ∀ j, (∀ T, T < j → p T = false) → fewestTo p j = -1 := by
          intro j
          induction j with
          | zero => intro _; rfl
          | succ j ih => intro hj; rw [fewestTo_skip (hj j (by omega)), ih fun T hT => hj T (by omega)]
        refine this S fun T hT => ?_
        cases e : p T
        · rfl
        · exact absurd ⟨T, hT, e⟩ he
      refine ⟨S, by omega, fewestTo_new hS (.inl (by rw [h0]; decide)), hS, fun T hT ht => ?_⟩
      rcases Nat.lt_succ_iff_lt_or_eq.1 hT with h | rfl
      · exact absurd ⟨T, h, ht⟩ he
      · exact Nat.le_refl _

theorem edge_small {rs : List Int} (g : VG rs) {e : Nat × Nat} (h : e ∈ edgesTo rs rs.length) : e.1 < 7 ∧ e.2 < 7 := by
  obtain ⟨h1, h2, -⟩ := edge_mem.1 h
  have := g.le
  exact ⟨by omega, by omega⟩
/-- The largest matching and the least cover. -/
theorem match_law {rs : List Int} (hv : isGraphB rs.length rs = true) : ∃ C : Nat, C < 2 ^ rs.length ∧ fewestV rs.length rs (fun S => covB rs.length rs S) = (C : Int) ∧ covB rs.length rs C = true ∧
    (bestM (edgesTo rs rs.length) 0).length ≤ cnt C ∧ (∀ Z : Nat, Z < 2 ^ rs.length → indepN rs Z = true → indepN rs (nDiff (2 ^ rs.length - 1) Z) = true → (bestM (edgesTo rs rs.length) 0).length = cnt C) := by
  have g := (VG.of hv).2
  have h128 := g.pow.1
  have hall := all_lt rs.length
  have hallc : covB rs.length rs ((2 ^ rs.length - 1 : Nat) : Int) = true := (cov_iff hv hall).2 fun e he => by
    obtain ⟨h1, h2, -⟩ := edge_mem.1 he
    exact .inr (all_bit.2 h2)
  obtain ⟨C, c1, c2, c3, c4⟩ := fewestTo_min (p := fun S : Nat => covB rs.length rs S) (2 ^ rs.length) ⟨_, hall, hallc⟩
  have hce := (cov_iff hv c1).1 c3
  have hsub := bestM_sub (edgesTo rs rs.length) 0
  have hle := match_le (bestM (edgesTo rs rs.length) 0) C (by omega) (bestM_ok _ _).1 fun e he => hce e (hsub.subset he)
  refine ⟨C, c1, by unfold fewestV; rw [if_pos hv]; exact c2, c3, hle, fun Z hZ z1 z2 => Nat.le_antisymm hle ?_⟩
  have hn := nDiff_lt (b := Z) (n := rs.length) hall
  have i1 := (indep_iff (by omega)).1 z1
  have i2 := (indep_iff (by omega)).1 z2
  obtain ⟨M, m1, m2, m3⟩ := konig Z _ (edgesTo rs rs.length) (Nat.le_refl _) (fun e he => by
    obtain ⟨q1, q2⟩ := edge_small g he
    obtain ⟨h1, h2, h3⟩ := edge_mem.1 he
    refine ⟨q1, q2, fun hz => ?_⟩
    cases e1 : Z.testBit e.1
    · have e2 := hz.symm.trans e1
      have := i2 e.1 e.2 (nDiff_bit.2 ⟨all_bit.2 (by omega), e1⟩) (nDiff_bit.2 ⟨all_bit.2 h2, e2⟩)
      rw [h3] at this; cases this
    · have := i1 e.1 e.2 e1 (hz.symm.trans e1)
      rw [h3] at this; cases this) (cnt C) fun D hD hc => by
    have hD' : D &&& (2 ^ rs.length - 1) < 2 ^ rs.length := Nat.lt_of_le_of_lt Nat.and_le_right hall
    have h1 := c4 _ hD' ((cov_iff hv hD').2 fun e he => by
      obtain ⟨h1, h2, -⟩ := edge_mem.1 he
      have q : ∀ i, i < rs.length → D.testBit i = true → (D &&& (2 ^ rs.length - 1)).testBit i = true := fun i hi h => by
        rw [Nat.testBit_and, h, all_bit.2 hi]; rfl
      rcases hc e he with h | h
      · exact .inl (q _ (by omega) h)
      · exact .inr (q _ h2 h))
    exact Nat.le_trans h1 (cnt_mono (by omega) fun i hi => by rw [Nat.testBit_and, Bool.and_eq_true] at hi; exact hi.1)
  exact Nat.le_trans m3 (bestM_max _ _ M m1 m2 fun e _ => by unfold hitE; rw [Nat.zero_testBit, Nat.zero_testBit]; rfl)

/-! ### Lists of lists as matchings -/
def rowL (ls : List (List Int)) (k : Nat) : List Int := ls.getD k []
def lsOf (es : List (Nat × Nat)) : List (List Int) := es.map fun e => [(e.1 : Int), (e.2 : Int)]
theorem lsOf_len (es : List (Nat × Nat)) : (lsOf es).length = es.length := by simp [lsOf]
theorem lsOf_at {es : List (Nat × Nat)} {k : Nat} (h : k < es.length) : rowL (lsOf es) k = [(es[k].1 : Int), (es[k].2 : Int)] := by simp [rowL, lsOf, h]
/-- Are v and w neighbours? -/
def edgB (n : Int) (rs : List Int) (v w : Int) : Bool := isGraphB n rs && (decide (0 ≤ v) && (decide (0 ≤ w) && (decide (v < n) && (decide (w < n) && (gn rs v.toNat).testBit w.toNat))))
theorem edgB_true {n : Int} {rs : List Int} {v w : Int} (h : edgB n rs v w = true) : n = rs.length ∧ VG rs ∧ ∃ a b : Nat, v = a ∧ w = b ∧ a < rs.length ∧ b < rs.length ∧ (gn rs a).testBit b = true := by
  unfold edgB at h
  simp only [Bool.and_eq_true, decide_eq_true_eq] at h
  obtain ⟨hg, h1, h2, h3, h4, h5⟩ := h
  obtain ⟨rfl, g⟩ := VG.of hg
  exact ⟨rfl, g, v.toNat, w.toNat, by omega, by omega, by omega, by omega, h5⟩
theorem edgB_mk {rs : List Int} {a b : Nat} (hv : isGraphB rs.length rs = true) (ha : a < rs.length) (hb : b < rs.length) (h : (gn rs a).testBit b = true) : edgB rs.length rs a b = true := by
  unfold edgB
  rw [hv, Int.toNat_natCast, Int.toNat_natCast, h, decide_eq_true (by omega), decide_eq_true (by omega), decide_eq_true (by omega), decide_eq_true (by omega)]
  rfl
/-- The ends of the first k pairs. -/
def mUsed (ls : List (List Int)) : Nat → Nat
  | 0 => 0
  | k + 1 => mUsed ls k ||| 2 ^ (gi (rowL ls k) 0).toNat ||| 2 ^ (gi (rowL ls k) 1).toNat
def mOk (n : Int) (rs : List Int) (ls : List (List Int)) (k : Nat) : Bool :=
  decide ((rowL ls k).length = 2) && (edgB n rs (gi (rowL ls k) 0) (gi (rowL ls k) 1) && (!(mUsed ls k).testBit (gi (rowL ls k) 0).toNat && !(mUsed ls k).testBit (gi (rowL ls k) 1).toNat))
def matchB (n : Int) (rs : List Int) (ls : List (List Int)) : Bool := isGraphB n rs && decide (∀ k, k < ls.length → mOk n rs ls k = true)
theorem matchB_bad {n : Int} {rs : List Int} {ls : List (List Int)} {k : Nat} (hk : k < ls.length) (h : mOk n rs ls k = false) : matchB n rs ls = false := by
  unfold matchB; rw [decide_eq_false, Bool.and_false]; intro a; rw [a k hk] at h; cases h
theorem matchB_end {n : Int} {rs : List Int} {ls : List (List Int)} (h : ∀ k, k < ls.length → mOk n rs ls k = true) : matchB n rs ls = isGraphB n rs := by unfold matchB; rw [decide_eq_true h, Bool.and_true]
theorem mUsed_lt {n : Int} {rs : List Int} {ls : List (List Int)} : ∀ k, (∀ j, j < k → mOk n rs ls j = true) → mUsed ls k < 128
  | 0, _ => by show (0 : Nat) < 128; omega
  | k + 1, h => by
    have ih := mUsed_lt k fun j hj => h j (by omega)
    have hk := h k (by omega)
    unfold mOk at hk
    rw [Bool.and_eq_true, Bool.and_eq_true] at hk
    obtain ⟨-, g, a, b, h1, h2, h3, h4, -⟩ := edgB_true hk.2.1
    have := g.le
    unfold mUsed
    rw [h1, h2, Int.toNat_natCast, Int.toNat_natCast]
    exact Nat.or_lt_two_pow (n := 7) (Nat.or_lt_two_pow (n := 7) ih (Nat.pow_lt_pow_right (by decide) (by omega))) (Nat.pow_lt_pow_right (by decide) (by omega))
theorem mUsed_bit {es : List (Nat × Nat)} {i : Nat} : ∀ k, k ≤ es.length → (mUsed (lsOf es) k).testBit i = true → ∃ j, ∃ h : j < es.length, j < k ∧ (es[j].1 = i ∨ es[j].2 = i)
  | 0, _, h => by rw [mUsed, Nat.zero_testBit] at h; cases h
  | k + 1, hk, h => by
    rw [mUsed, lsOf_at (by omega), Nat.testBit_or, Nat.testBit_or, Bool.or_eq_true, Bool.or_eq_true] at h
    simp only [gi, List.getD_cons_zero, List.getD_cons_succ, Int.toNat_natCast, Nat.testBit_two_pow, decide_eq_true_eq] at h
    rcases h with (h | h) | h
    · obtain ⟨j, h1, h2, h3⟩ := mUsed_bit k (by omega) h
      exact ⟨j, h1, by omega, h3⟩
    · exact ⟨k, by omega, by omega, .inl h⟩
    · exact ⟨k, by omega, by omega, .inr h⟩
theorem matchB_ok {rs : List Int} (hv : isGraphB rs.length rs = true) {M : List (Nat × Nat)} (hp : M.Pairwise apart) (hs : ∀ e ∈ M, e ∈ edgesTo rs rs.length) : matchB rs.length rs (lsOf M) = true := by
  have g := (VG.of hv).2
  rw [matchB_end, hv]
  intro k hk
  rw [lsOf_len] at hk
  obtain ⟨h1, h2, h3⟩ := edge_mem.1 (hs M[k] (List.getElem_mem hk))
  have hapart := List.pairwise_iff_getElem.1 hp
  have hno : ∀ i, i = M[k].1 ∨ i = M[k].2 → (mUsed (lsOf M) k).testBit i = false := fun i hi => by
    cases e : (mUsed (lsOf M) k).testBit i
    · rfl
    · exfalso
      obtain ⟨j, j1, j2, j3⟩ := mUsed_bit k (by omega) e
      obtain ⟨p1, p2, p3, p4⟩ := hapart j k j1 hk j2
      rcases hi with rfl | rfl <;> rcases j3 with h | h <;> simp_all
  unfold mOk
  rw [lsOf_at hk]
  have e0 : gi [(M[k].1 : Int), (M[k].2 : Int)] 0 = (M[k].1 : Int) := rfl
  have e1 : gi [(M[k].1 : Int), (M[k].2 : Int)] 1 = (M[k].2 : Int) := rfl
  rw [e0, e1, Int.toNat_natCast, Int.toNat_natCast, hno _ (.inl rfl), hno _ (.inr rfl)]
  rw [edgB_mk hv (by omega) h2 h3]
  rfl

end Go.Proofs.YtfkehmpckhmkbaaGreat

namespace Go.Proofs.YtfkehmpckhmkbaaGreat
open Go.RowKit

set_option maxHeartbeats 400000 in
theorem lawSameInts_any (ao bo : Option Addr) (xs ys : List Int) (c d : Nat) (w : World) (hx : IntsAt w ao xs) (hy : IntsAt w bo ys) (hn : xs.length ≤ 140737488351232) (hm : ys.length ≤ 140737488351232) :
    Calls Tryz.prog 12 #[.slice ao xs.length c, .slice bo ys.length d] w fun e w' => e = .returned (.bool (sameInts xs ys)) ∧ Below w.heap.size w w' := by
  by_cases hl : xs.length = ys.length
  · have hb : ((xs.length : Int) != ys.length) = false := by rw [hl]; simp
    have HL := Lib.hid hl
    clear hl
    go_enter Tryz.func12, Tryz.ntmps12
    go_wp2_with fail
    go_loopw [5] (fun i wr => (∃ m : Later w, wr = m.w) ∧ ∃ k : Nat, k ≤ xs.length ∧ i = .int .i64 k ∧ ∀ j, j < k → gi xs j = gi ys j) (fun i _ => xs.length - (intOf i).toNat)
    case atStart => exact ⟨⟨Later.refl _, rfl⟩, 0, by omega, rfl, fun j h => by omega⟩
    case round =>
      obtain ⟨⟨m, rfl⟩, k, hk, rfl, hP⟩ := hrel
      have HP := Lib.hid hP
      clear hP
      by_cases hlt : k < xs.length
      · have hlt' : k < ys.length := by rw [← HL.out]; exact hlt
        obtain ⟨b, off, rfl, hbl, hc⟩ := hx (by omega)
        obtain ⟨b2, off2, rfl, hbl2, hc2⟩ := hy (by omega)
        go_wp2_with fail
        cases he : (gi xs k != gi ys k)
        all_goals
          refine wp_region_later m rfl (by kernel_rfl) (by kernel_rfl) ?_
          repeat (go_big_quiet_step (fail))
          refine wpQuiet_nil ?_
          rintro _ ⟨m, rfl⟩
          go_wp2_with fail
        · go_roundw
          case rel =>
            refine ⟨⟨m, rfl⟩, k + 1, by omega, by go_num, fun j hj => ?_⟩
            rcases Nat.lt_succ_iff_lt_or_eq.1 hj with hj | rfl
            · exact HP.out j hj
            · simpa using he
          case measure => simp [intOf]; omega
        · go_ret
          exact ⟨retB (by rw [sameInts_at (by simpa using he)]), m.below⟩
      · go_wp2_with fail
        go_ret
        exact ⟨retB (by rw [sameInts_all HL.out (fun j hj => HP.out j (by omega))]), m.below⟩
  · have hb : ((xs.length : Int) != ys.length) = true := by simp; omega
    have HL := Lib.hid hl
    clear hl
    go_enter Tryz.func12, Tryz.ntmps12
    go_wp2_with fail
    go_ret
    exact ⟨retB (by rw [sameInts_len HL.out]), Below.refl _ _⟩

end Go.Proofs.YtfkehmpckhmkbaaGreat

namespace Go.Proofs.YtfkehmpckhmkbaaGreat
open Go.RowKit

theorem edgB_no {n : Int} {rs : List Int} {v w : Int} (h : isGraphB n rs = false) : edgB n rs v w = false := by unfold edgB; rw [h]; rfl

set_option maxRecDepth 100000 in
set_option maxHeartbeats 1000000 in
theorem specHasEdge_any (n : Int) (rs : List Int) (v v2 : Int) (ro : Option Addr) (rc : Nat) (w : World) (hr : IntsAt w ro rs) (hrl : rs.length ≤ 1048576) :
    Calls Tryz.prog 102 #[.agg #[.int .i64 n, .slice ro rs.length rc], .int .i64 v, .int .i64 v2] w fun e w' => e = .returned (.bool (edgB n rs v v2)) ∧ Below w.heap.size w w' := by
  have HE : Hid (edgB n rs v v2 = (isGraphB n rs && (decide (0 ≤ v) && (decide (0 ≤ v2) && (decide (v < n) && (decide (v2 < n) && (gn rs v.toNat).testBit v2.toNat)))))) := rfl
  go_enter Tryz.func102, Tryz.ntmps102
  go_wp2_with fail
  generalize hW : w.alloc _ = W1
  obtain ⟨hB, -, k0⟩ := alloc1 hW
  replace hr := hr.below hB
  have hb0 := k0.lt
  have hc0 := k0.cell 0
  have hc1 := k0.cell 1
  simp at hc0 hc1
  clear hW k0
  have HhB := Lib.hid hB
  clear hB
  obtain ⟨m, hm0⟩ : ∃ m : Later W1, m.w = W1 := ⟨Later.refl _, rfl⟩
  refine (fun h => hm0 ▸ h) ?_
  clear hm0
  have hG := fun m : Later W1 => specIsGraph_any n rs ro rc m.w (hr.later m) hrl
  cases hv : isGraphB n rs
  · rw [hv] at hG HE
    go_wp2_with (first | (go_at_call 13; refine (Calls.later m (hG _)).mono ?_; rintro e w' ⟨rfl, m, rfl⟩))
    go_ret
    exact ⟨retB (by rw [HE.out]; rfl), below_later HhB.out m⟩
  rw [hv] at hG HE
  cases h1 : decide (0 ≤ v)
  · go_wp2_with (first | (go_at_call 13; refine (Calls.later m (hG _)).mono ?_; rintro e w' ⟨rfl, m, rfl⟩))
    go_ret
    exact ⟨retB (by rw [HE.out, h1]; rfl), below_later HhB.out m⟩
  cases h2 : decide (0 ≤ v2)
  · go_wp2_with (first | (go_at_call 13; refine (Calls.later m (hG _)).mono ?_; rintro e w' ⟨rfl, m, rfl⟩))
    go_ret
    exact ⟨retB (by rw [HE.out, h1, h2]; rfl), below_later HhB.out m⟩
  cases h3 : decide (v < n)
  · go_wp2_with (first | (go_at_call 13; refine (Calls.later m (hG _)).mono ?_; rintro e w' ⟨rfl, m, rfl⟩))
    go_ret
    exact ⟨retB (by rw [HE.out, h1, h2, h3]; rfl), below_later HhB.out m⟩
  cases h4 : decide (v2 < n)
  · go_wp2_with (first | (go_at_call 13; refine (Calls.later m (hG _)).mono ?_; rintro e w' ⟨rfl, m, rfl⟩))
    go_ret
    exact ⟨retB (by rw [HE.out, h1, h2, h3, h4]; rfl), below_later HhB.out m⟩
  obtain ⟨rfl, g⟩ := VG.of hv
  have e1 := of_decide_eq_true h1
  have e2 := of_decide_eq_true h2
  have e3 := of_decide_eq_true h3
  have e4 := of_decide_eq_true h4
  obtain ⟨a, rfl⟩ : ∃ a : Nat, v = a := ⟨v.toNat, by omega⟩
  obtain ⟨b, rfl⟩ : ∃ b : Nat, v2 = b := ⟨v2.toNat, by omega⟩
  have HF : Hid (edgB rs.length rs a b = (gn rs a).testBit b) := Lib.hid (by rw [HE.out, h1, h2, h3, h4]; rfl)
  have hE := fun m : Later W1 => l2Edge_any rs a b ro rc m.w (hr.later m) g (by omega) (by omega)
  generalize (gn rs a).testBit b = c at *
  go_wp2_with (first | (go_at_call 13; refine (Calls.later m (hG _)).mono ?_; rintro e w' ⟨rfl, m, rfl⟩) | (go_at_call 69; refine (Calls.later m (hE _)).mono ?_; rintro e w' ⟨rfl, m, rfl⟩))
  go_ret
  exact ⟨retB (by rw [HF.out]), below_later HhB.out m⟩


/-! ### Lists of lists -/
/-- The slice at ao reads as the lists ls. -/
def RowsAt (w : World) (ao : Option Addr) (ls : List (List Int)) : Prop :=
  0 < ls.length → ∃ b off, ao = some ⟨b, off, none⟩ ∧ b < w.heap.size ∧ ∀ k, k < ls.length → ∃ ro rc, w.cell? ⟨b, off + k, none⟩ = some (.slice ro (rowL ls k).length rc) ∧ IntsAt w ro (rowL ls k)
theorem RowsAt.below {w w' : World} {ao : Option Addr} {ls : List (List Int)} (h : RowsAt w ao ls) (hb : Below w.heap.size w w') : RowsAt w' ao ls := fun h0 => by
  obtain ⟨b, off, h1, h2, h3⟩ := h h0
  refine ⟨b, off, h1, Nat.lt_of_lt_of_le h2 hb.size, fun k hk => ?_⟩
  obtain ⟨ro, rc, h4, h5⟩ := h3 k hk
  exact ⟨ro, rc, by rw [hb.cell (p := ⟨b, off + k, none⟩) h2]; exact h4, h5.below hb⟩
theorem RowsAt.later {W : World} {ao : Option Addr} {ls : List (List Int)} (h : RowsAt W ao ls) (m : Later W) : RowsAt m.w ao ls := h.below m.below
theorem ValsOf.pair {w : World} {xs : List Value} {es : List (Nat × Nat)} (h : ValsOf w xs es) {k : Nat} (hk : k < es.length) : ∃ g, xs[k]? = some (.slice (some ⟨g, 0, none⟩) 2 2) ∧ IntsAt w (some ⟨g, 0, none⟩) [(es[k].1 : Int), (es[k].2 : Int)] := by
  obtain ⟨g, h1, h2⟩ := h.2 k es[k] (List.getElem?_eq_getElem hk)
  refine ⟨g, h1, ?_⟩
  have : OwnInts w g [(es[k].1 : Int), (es[k].2 : Int)] := h2
  exact this.ints
theorem rowsL_of {w : World} {base cap : Nat} {ao : Option Addr} {xs : List Value} {es : List (Nat × Nat)} (ho : OwnV w base (.slice ao xs.length cap) xs) (hv : ValsOf w xs es) : RowsAt w ao (lsOf es) := fun h0 => by
  rw [lsOf_len] at h0
  obtain ⟨g, rfl, -, hg, hc⟩ := ho.cells (by rw [hv.1]; exact h0)
  refine ⟨g, 0, rfl, hg, fun k hk => ?_⟩
  rw [lsOf_len] at hk
  obtain ⟨g2, h1, h2⟩ := hv.pair hk
  rw [lsOf_at hk, Nat.zero_add]
  exact ⟨some ⟨g2, 0, none⟩, 2, hc k _ h1, h2⟩


end Go.Proofs.YtfkehmpckhmkbaaGreat

namespace Go.Proofs.YtfkehmpckhmkbaaGreat
open Go.RowKit

/-- What an arc forces, by steps. -/
inductive Fc (rs : List Int) (s : Nat × Nat) : Nat × Nat → Prop
  | base : Fc rs s s
  | step {p q : Nat × Nat} (h : Fc rs s p) (hq : q ∈ nxV rs p.1 p.2) : Fc rs s q
/-- The list so far: distinct arcs of the graph, each forced by the first. -/
structure Fs (rs : List Int) (s : Nat × Nat) (es : List (Nat × Nat)) : Prop where
  nodup : es.Nodup
  lt : ∀ p ∈ es, p.1 < rs.length ∧ p.2 < rs.length
  fc : ∀ p ∈ es, Fc rs s p
  seed : s ∈ es
theorem pairs_len : ∀ (es : List (Nat × Nat)), es.Nodup → (∀ p ∈ es, p.1 < 7 ∧ p.2 < 7) → es.length ≤ 49 := fun es hn hl => by
  have h1 : (es.map fun p => p.1 * 7 + p.2).Nodup := by
    rw [List.nodup_iff_pairwise_ne] at *
    rw [List.pairwise_map]
    refine List.Pairwise.imp_of_mem (fun {p q} hp hq hne he => hne ?_) hn
    obtain ⟨a1, a2⟩ := hl p hp
    obtain ⟨b1, b2⟩ := hl q hq
    exact Prod.ext (by omega) (by omega)
  have h2 := nodup_lt7 49 (es.map fun p => p.1 * 7 + p.2) h1 (fun a ha => by
    obtain ⟨p, hp, rfl⟩ := List.mem_map.1 ha
    obtain ⟨a1, a2⟩ := hl p hp
    omega)
  rwa [List.length_map] at h2
theorem Fs.len {rs : List Int} (g : VG rs) {s : Nat × Nat} {es : List (Nat × Nat)} (h : Fs rs s es) : es.length ≤ 49 := by
  have := g.le
  exact pairs_len es h.nodup fun p hp => by have := h.lt p hp; omega
theorem Fs.push {rs : List Int} {s p q : Nat × Nat} {es : List (Nat × Nat)} (h : Fs rs s es) (hp : p ∈ es) (hq : q ∈ nxV rs p.1 p.2) (hn : q ∉ es) : Fs rs s (es ++ [q]) where
  nodup := by
    rw [List.nodup_append]
    refine ⟨h.nodup, by simp, fun a ha b hb => ?_⟩
    rw [List.mem_singleton] at hb
    subst hb
    exact fun e => hn (e ▸ ha)
  lt := fun a ha => by
    rcases List.mem_append.1 ha with ha | ha
    · exact h.lt a ha
    · rw [List.mem_singleton] at ha; subst ha
      have := mem_nxV.1 hq
      exact ⟨this.1, this.2.1⟩
  fc := fun a ha => by
    rcases List.mem_append.1 ha with ha | ha
    · exact h.fc a ha
    · rw [List.mem_singleton] at ha; subst ha
      exact .step (h.fc p hp) hq
  seed := List.mem_append_left _ h.seed

/-- The list is what the reference returns. -/
def FaIs (n : Int) (rs : List Int) (a b : Nat) (es : List (Nat × Nat)) : Prop :=
  (edgB n rs a b = false ∧ es = []) ∨ (edgB n rs a b = true ∧ Fs rs (a, b) es ∧ ∀ p ∈ es, ∀ q ∈ nxV rs p.1 p.2, q ∈ es)

end Go.Proofs.YtfkehmpckhmkbaaGreat

namespace Go.Proofs.YtfkehmpckhmkbaaGreat

theorem nx_mem {rs : List Int} {p q : Nat × Nat} : q ∈ nxV rs p.1 p.2 ↔ q.1 < rs.length ∧ q.2 < rs.length ∧ ad rs q.1 q.2 = true ∧ ((q.1 = p.1 ∧ q.2 ≠ p.2 ∧ ad rs q.2 p.2 = false) ∨ (q.2 = p.2 ∧ q.1 ≠ p.1 ∧ ad rs q.1 p.1 = false)) := by
  rw [mem_nxV]
  unfold nxB ad
  simp only [Bool.and_eq_true, Bool.or_eq_true, decide_eq_true_eq, Bool.not_eq_true', decide_eq_false_iff_not]
  constructor
  · rintro ⟨h1, h2, h3, ⟨⟨h4, h5⟩, h6⟩ | ⟨⟨h4, h5⟩, h6⟩⟩
    · exact ⟨h1, h2, h3, .inl ⟨h4, h5, h6⟩⟩
    · exact ⟨h1, h2, h3, .inr ⟨h4, h5, h6⟩⟩
  · rintro ⟨h1, h2, h3, ⟨h4, h5, h6⟩ | ⟨h4, h5, h6⟩⟩
    · exact ⟨h1, h2, h3, .inl ⟨⟨h4, h5⟩, h6⟩⟩
    · exact ⟨h1, h2, h3, .inr ⟨⟨h4, h5⟩, h6⟩⟩
theorem nx_mk {rs : List Int} (g : VG rs) {p q : Nat × Nat} (h : ad rs q.1 q.2 = true) (h2 : (q.1 = p.1 ∧ q.2 ≠ p.2 ∧ ad rs q.2 p.2 = false) ∨ (q.2 = p.2 ∧ q.1 ≠ p.1 ∧ ad rs q.1 p.1 = false)) : q ∈ nxV rs p.1 p.2 :=
  nx_mem.2 ⟨(ad_lt g h).1, (ad_lt g h).2, h, h2⟩
def rev2 (p : Nat × Nat) : Nat × Nat := (p.2, p.1)
theorem nx_back {rs : List Int} (g : VG rs) {p q : Nat × Nat} (hp : ad rs p.1 p.2 = true) (h : q ∈ nxV rs p.1 p.2) : p ∈ nxV rs q.1 q.2 := by
  obtain ⟨-, -, -, ⟨h1, h2, h3⟩ | ⟨h1, h2, h3⟩⟩ := nx_mem.1 h
  · exact nx_mk g hp (.inl ⟨h1.symm, fun e => h2 e.symm, by rw [ad_symm g]; exact h3⟩)
  · exact nx_mk g hp (.inr ⟨h1.symm, fun e => h2 e.symm, by rw [ad_symm g]; exact h3⟩)
theorem nx_rev {rs : List Int} (g : VG rs) {p q : Nat × Nat} (h : q ∈ nxV rs p.1 p.2) : rev2 q ∈ nxV rs (rev2 p).1 (rev2 p).2 := by
  obtain ⟨-, -, h0, ⟨h1, h2, h3⟩ | ⟨h1, h2, h3⟩⟩ := nx_mem.1 h
  · exact nx_mk g (by rw [ad_symm g]; exact h0) (.inr ⟨h1, h2, h3⟩)
  · exact nx_mk g (by rw [ad_symm g]; exact h0) (.inl ⟨h1, h2, h3⟩)
theorem Fc.trans {rs : List Int} {s p q : Nat × Nat} (h : Fc rs s p) (h2 : Fc rs p q) : Fc rs s q := by
  induction h2 with
  | base => exact h
  | step _ hq ih => exact .step ih hq
theorem Fc.one {rs : List Int} {p q : Nat × Nat} (h : q ∈ nxV rs p.1 p.2) : Fc rs p q := .step .base h
theorem Fc.edge {rs : List Int} {s p : Nat × Nat} (hs : ad rs s.1 s.2 = true) (h : Fc rs s p) : ad rs p.1 p.2 = true := by
  cases h with
  | base => exact hs
  | step _ hq => exact (nx_mem.1 hq).2.2.1
theorem Fc.back {rs : List Int} (g : VG rs) {s p : Nat × Nat} (hs : ad rs s.1 s.2 = true) (h : Fc rs s p) : Fc rs p s := by
  induction h with
  | base => exact .base
  | step h hq ih => exact (Fc.one (nx_back g (h.edge hs) hq)).trans ih
theorem Fc.rev {rs : List Int} (g : VG rs) {s p : Nat × Nat} (h : Fc rs s p) : Fc rs (rev2 s) (rev2 p) := by
  induction h with
  | base => exact .base
  | step _ hq ih => exact .step ih (nx_rev g hq)
theorem Fc.mem {rs : List Int} {s p : Nat × Nat} {es : List (Nat × Nat)} (hs : s ∈ es) (hc : ∀ p ∈ es, ∀ q ∈ nxV rs p.1 p.2, q ∈ es) (h : Fc rs s p) : p ∈ es := by
  induction h with
  | base => exact hs
  | step _ hq ih => exact hc _ ih _ hq
theorem C5.rot {rs : List Int} {a b c d e : Nat} (g : VG rs) (h : C5 rs a b c d e) : C5 rs b c d e a :=
  ⟨h.bc, h.cd, h.de, h.ea, h.ab, h.bd, h.be, h.ce, (ad_symm g _ _).trans h.ac, (ad_symm g _ _).trans h.a_d⟩
/-- Each arc of the hole forces its opposite. -/
theorem C5.turn {rs : List Int} {a b c d e : Nat} (g : VG rs) (h : C5 rs a b c d e) : Fc rs (a, b) (b, a) := by
  have H : ∀ i j : Fin 5, i ≠ j → v5 a b c d e i ≠ v5 a b c d e j := fun i j hne he => hne (h.inj g he)
  have h02 : a ≠ c := H 0 2 (by decide)
  have h13 : b ≠ d := H 1 3 (by decide)
  have h24 : c ≠ e := H 2 4 (by decide)
  have h30 : d ≠ a := H 3 0 (by decide)
  have h41 : e ≠ b := H 4 1 (by decide)
  have s1 : Fc rs (a, b) (c, b) := .one (nx_mk g ((ad_symm g _ _).trans h.bc) (.inr ⟨rfl, h02.symm, (ad_symm g _ _).trans h.ac⟩))
  have s2 : Fc rs (c, b) (c, d) := .one (nx_mk g h.cd (.inl ⟨rfl, h13.symm, (ad_symm g _ _).trans h.bd⟩))
  have s3 : Fc rs (c, d) (e, d) := .one (nx_mk g ((ad_symm g _ _).trans h.de) (.inr ⟨rfl, h24.symm, (ad_symm g _ _).trans h.ce⟩))
  have s4 : Fc rs (e, d) (e, a) := .one (nx_mk g h.ea (.inl ⟨rfl, h30.symm, h.a_d⟩))
  have s5 : Fc rs (e, a) (b, a) := .one (nx_mk g ((ad_symm g _ _).trans h.ab) (.inr ⟨rfl, h41.symm, h.be⟩))
  exact s1.trans (s2.trans (s3.trans (s4.trans s5)))
theorem C5.turn5 {rs : List Int} {a b c d e : Nat} (g : VG rs) (h : C5 rs a b c d e) {p : Nat × Nat} (hp : p ∈ [(a, b), (b, c), (c, d), (d, e), (e, a)]) : Fc rs p (rev2 p) := by
  have h1 := h.rot g
  have h2 := h1.rot g
  have h3 := h2.rot g
  have h4 := h3.rot g
  simp only [List.mem_cons] at hp
  rcases hp with rfl | rfl | rfl | rfl | rfl | hp
  · exact h.turn g
  · exact h1.turn g
  · exact h2.turn g
  · exact h3.turn g
  · exact h4.turn g
  · cases hp
/-- A forced list that holds an arc of the hole, or its opposite, holds the opposite of its first arc. -/
theorem forced_c5 {rs : List Int} {a b c d e : Nat} (g : VG rs) (h : C5 rs a b c d e) {s : Nat × Nat} {es : List (Nat × Nat)} (hs : ad rs s.1 s.2 = true) (hF : Fs rs s es) (hc : ∀ p ∈ es, ∀ q ∈ nxV rs p.1 p.2, q ∈ es)
    {p : Nat × Nat} (hp : p ∈ [(a, b), (b, c), (c, d), (d, e), (e, a)]) (hm : p ∈ es ∨ rev2 p ∈ es) : rev2 s ∈ es := by
  have hin : p ∈ es := by
    rcases hm with hm | hm
    · exact hm
    · have h1 := h.turn5 g hp
      have h2 : Fc rs (rev2 p) p := h1.rev g
      exact Fc.mem hF.seed hc ((hF.fc _ hm).trans h2)
  have h1 := hF.fc p hin
  exact Fc.mem hF.seed hc (h1.trans ((h.turn5 g hp).trans ((h1.back g hs).rev g)))

end Go.Proofs.YtfkehmpckhmkbaaGreat
