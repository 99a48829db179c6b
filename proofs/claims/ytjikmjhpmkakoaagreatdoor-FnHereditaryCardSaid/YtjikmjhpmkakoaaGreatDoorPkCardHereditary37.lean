/-
  Graphs of at most six vertices: an obstacle makes a stretched set; what prunes take away, putting back lays again; what is put together can be pruned. No conditions beyond that.
-/
import Derived.Test.YtjikmjhpmkakoaaGreatDoorPkCardHereditary35
import Derived.Test.YtjikmjhpmkakoaaGreatDoorPkCardHereditary36
namespace Go.Proofs.YtjikmjhpmkakoaaGreatDoor
open Go.RowKit

theorem rin_lenS {rs : List Int} (g : VG rs) {S u v n : Nat} (hS : S < 2 ^ rs.length) (hu : S.testBit u = true) (hv : S.testBit v = true) (h : rin rs S n u v) : rin rs S rs.length u v := by
  have h7 : S < 128 := by have := g.pow.1; omega
  rcases Nat.le_total n rs.length with h1 | h1
  · exact rin_mono h1 h
  · have hfix := grow_fix g (S := S) (X := 2 ^ u) hS (pow_sub hu) (by rw [cnt_pow (by have := g.le; have := testBit_lt hS hu; omega)]; exact Nat.le_refl _)
    have h2 := stepN_stay (rs := rs) (S := S) (X := 2 ^ u) (k := rs.length) hfix n h1
    have h3 := (stepN_rin h7 hu n v hv).2 h
    rw [h2] at h3
    exact (stepN_rin h7 hu rs.length v hv).1 h3
/-- A set all of which hangs on one vertex keeps together. -/
theorem star_one {rs : List Int} (g : VG rs) {S a : Nat} (hS : S < 2 ^ rs.length) (ha : S.testBit a = true) (h : ∀ v, S.testBit v = true → rin rs S 4 a v) : (∀ u v, S.testBit u = true → S.testBit v = true → rin rs S rs.length u v) ∧ (partsOf rs S).length = 1 := by
  have hc : ∀ u v, S.testBit u = true → S.testBit v = true → rin rs S rs.length u v := fun u v hu hv => rin_lenS g hS hu hv (rin_trans (rin_symm g ha hu (h u hu)) (h v hv))
  exact ⟨hc, part_one g hS (fun e => by subst e; simp at ha) hc⟩
theorem strP_mk {rs : List Int} {S : Nat} (h1 : (partsOf rs S).length = 1) (h2 : keepB rs.length rs S = false) : strP rs S = true := by
  unfold strP; rw [h1, h2]; rfl
theorem or_bit {a b i : Nat} : (a ||| b).testBit i = true ↔ a.testBit i = true ∨ b.testBit i = true := by rw [Nat.testBit_or, Bool.or_eq_true]
theorem or_lt {N a b : Nat} (h1 : a < 2 ^ N) (h2 : b < N) : a ||| 2 ^ b < 2 ^ N := Nat.or_lt_two_pow h1 (Nat.pow_lt_pow_right (by decide) h2)
theorem stretched_of {rs : List Int} (hg : isGraphB rs.length rs = true) (h6 : rs.length ≤ 6) (ho : obP rs (2 ^ rs.length - 1)) : ∃ S, S < 2 ^ rs.length ∧ strP rs S = true := by
  have g := (VG.of hg).2
  have hb : ∀ v, (2 ^ rs.length - 1).testBit v = true → v < rs.length := fun v h => all_bit.1 h
  rcases (obP_iff g h6 (all_lt _)).1 ho with ⟨a, b, c, d, e, ⟨ha, hb', hc, hd, he⟩, hn, ⟨e1, e2, e3⟩, ⟨n1, n2, n3⟩, e4, e5⟩ | ⟨a, b, c, d, f, e, ⟨ha, hb', hc, hd, hf, he⟩, hn, ⟨e1, e2, e3, e6⟩, ⟨n1, n2, n3, n4, n5, n6⟩, e4, e5⟩
  · replace ha := hb _ ha; replace hb' := hb _ hb'; replace hc := hb _ hc; replace hd := hb _ hd
    have m : ∀ i, (2 ^ a ||| 2 ^ b ||| 2 ^ c ||| 2 ^ d).testBit i = true ↔ i = a ∨ i = b ∨ i = c ∨ i = d := fun i => by
      rw [or_bit, or_bit, or_bit, pow_bit, pow_bit, pow_bit, pow_bit]; omega
    have hS : 2 ^ a ||| 2 ^ b ||| 2 ^ c ||| 2 ^ d < 2 ^ rs.length := or_lt (or_lt (or_lt (Nat.pow_lt_pow_right (by decide) ha) hb') hc) hd
    generalize 2 ^ a ||| 2 ^ b ||| 2 ^ c ||| 2 ^ d = S at *
    have sa := (m a).2 (by omega)
    have sb := (m b).2 (by omega)
    have sc := (m c).2 (by omega)
    have sd := (m d).2 (by omega)
    have rb : rin rs S 1 a b := rin_step sa e1
    have rc : rin rs S 2 a c := .inr ⟨b, sb, rb, e2⟩
    have rd : rin rs S 3 a d := .inr ⟨c, sc, rc, e3⟩
    obtain ⟨h1, h2⟩ := star_one g hS sa fun v hv => by
      rcases (m v).1 hv with rfl | rfl | rfl | rfl
      · exact rin_mono (n := 0) (by omega) rfl
      · exact rin_mono (by omega) rb
      · exact rin_mono (by omega) rc
      · exact rin_mono (by omega) rd
    simp only [List.nodup_cons, List.mem_cons, List.not_mem_nil, or_false, not_or, List.nodup_nil, _root_.and_true, not_false_eq_true] at hn
    obtain ⟨⟨q1, q2, q3, q4⟩, ⟨q5, q6, q7⟩, ⟨q8, q9⟩, q10⟩ := hn
    have k1 : ∀ z, rin rs S 1 a z → z = a ∨ ad rs a z = true := fun z h => by
      rcases h with h | ⟨x, -, h, h3⟩
      · exact .inl (Eq.symm h)
      · have h' : a = x := h
        subst h'; exact .inr h3
    refine ⟨S, hS, strP_mk h2 (not_keep hg hS sa sd e4 (by rw [ad_symm g]; exact e5) ?_ (h1 a d sa sd))⟩
    rintro (h | ⟨x, hx, h, h3⟩)
    · rcases k1 d h with h | h
      · exact q3 h.symm
      · rw [n3] at h; cases h
    · rcases (m x).1 hx with rfl | rfl | rfl | rfl
      · rw [n3] at h3; cases h3
      · rw [n2] at h3; cases h3
      · rcases k1 _ h with h | h
        · exact q2 h.symm
        · rw [n1] at h; cases h
      · rw [ad_irr g] at h3; cases h3
  · replace ha := hb _ ha; replace hb' := hb _ hb'; replace hc := hb _ hc; replace hd := hb _ hd; replace hf := hb _ hf
    have m : ∀ i, (2 ^ a ||| 2 ^ b ||| 2 ^ c ||| 2 ^ d ||| 2 ^ f).testBit i = true ↔ i = a ∨ i = b ∨ i = c ∨ i = d ∨ i = f := fun i => by
      rw [or_bit, or_bit, or_bit, or_bit, pow_bit, pow_bit, pow_bit, pow_bit, pow_bit]; omega
    have hS : 2 ^ a ||| 2 ^ b ||| 2 ^ c ||| 2 ^ d ||| 2 ^ f < 2 ^ rs.length := or_lt (or_lt (or_lt (or_lt (Nat.pow_lt_pow_right (by decide) ha) hb') hc) hd) hf
    generalize 2 ^ a ||| 2 ^ b ||| 2 ^ c ||| 2 ^ d ||| 2 ^ f = S at *
    have sa := (m a).2 (by omega)
    have sb := (m b).2 (by omega)
    have sc := (m c).2 (by omega)
    have sd := (m d).2 (by omega)
    have sf := (m f).2 (by omega)
    have rb : rin rs S 1 a b := rin_step sa e1
    have rc : rin rs S 2 a c := .inr ⟨b, sb, rb, e2⟩
    have rd : rin rs S 3 a d := .inr ⟨c, sc, rc, e3⟩
    have rf : rin rs S 4 a f := .inr ⟨d, sd, rd, e6⟩
    obtain ⟨h1, h2⟩ := star_one g hS sa fun v hv => by
      rcases (m v).1 hv with rfl | rfl | rfl | rfl | rfl
      · exact rin_mono (n := 0) (by omega) rfl
      · exact rin_mono (by omega) rb
      · exact rin_mono (by omega) rc
      · exact rin_mono (by omega) rd
      · exact rf
    simp only [List.nodup_cons, List.mem_cons, List.not_mem_nil, or_false, not_or, List.nodup_nil, _root_.and_true, not_false_eq_true] at hn
    obtain ⟨⟨q1, q2, q3, q4, q5⟩, -⟩ := hn
    have k1 : ∀ z, rin rs S 1 a z → z = a ∨ ad rs a z = true := fun z h => by
      rcases h with h | ⟨x, -, h, h3⟩
      · exact .inl (Eq.symm h)
      · have h' : a = x := h
        subst h'; exact .inr h3
    refine ⟨S, hS, strP_mk h2 (not_keep hg hS sa sf e4 (by rw [ad_symm g]; exact e5) ?_ (h1 a f sa sf))⟩
    rintro (h | ⟨x, hx, h, h3⟩)
    · rcases k1 f h with h | h
      · exact q4 h.symm
      · rw [n3] at h; cases h
    · rcases (m x).1 hx with rfl | rfl | rfl | rfl | rfl
      · rw [n3] at h3; cases h3
      · rw [n5] at h3; cases h3
      · rw [n6] at h3; cases h3
      · rcases k1 _ h with h | h
        · exact q3 h.symm
        · rw [n2] at h; cases h
      · rw [ad_irr g] at h3; cases h3
/-- A graph can be pruned to the end exactly if no set is stretched. -/
theorem stretch_iff {rs : List Int} (hg : isGraphB rs.length rs = true) (h6 : rs.length ≤ 6) : (strO rs.length rs).isSome = !(prunesV rs.length rs).isSome := by
  have g := (VG.of hg).2
  have hp := prunes_iff hg h6
  have hstr : strO rs.length rs = firstB (strP rs) (2 ^ rs.length) := leastO_of hg
  rw [hstr]
  cases hq : (prunesV rs.length rs).isSome
  · have ho : obP rs (2 ^ rs.length - 1) := Classical.byContradiction fun h => by rw [hp.2 h] at hq; cases hq
    obtain ⟨S, hS, hs⟩ := stretched_of hg h6 ho
    cases hf : firstB (strP rs) (2 ^ rs.length) with
    | some k => rfl
    | none => rw [firstB_no hf S hS] at hs; cases hs
  · have ho := hp.1 hq
    rw [firstB_none fun S hS => ?_]
    · rfl
    · unfold strP
      by_cases h1 : (partsOf rs S).length = 1
      · rw [keep_of hg h6 hS h1 ho]; simp
      · rw [decide_eq_false h1]; rfl
/-- A stretched set does not keep distances. -/
theorem strO_keep {n : Int} {rs : List Int} {k : Nat} (h : strO n rs = some k) : keepB n rs k = false := by
  cases hv : isGraphB n rs
  · rw [show strO n rs = none from leastO_no hv] at h; cases h
  · rw [show strO n rs = firstB (strP rs) (2 ^ rs.length) from leastO_of hv] at h
    have h2 := (firstB_some h).2
    unfold strP at h2
    rw [Bool.and_eq_true, Bool.not_eq_true'] at h2
    rw [(VG.of hv).1]; exact h2.2

/-! ### Putting back -/
/-- The graph of the vertices of S, the others alone. -/
def resV (rs : List Int) (S : Nat) : List Int := rowsOf rs.length fun a b => S.testBit a && S.testBit b && eb rs a b
theorem resV_len (rs : List Int) (S : Nat) : (resV rs S).length = rs.length := rowsOf_len _ _
theorem resV_eb {rs : List Int} {S a b : Nat} (ha : a < rs.length) (hb : b < rs.length) : eb (resV rs S) a b = (S.testBit a && S.testBit b && eb rs a b) := eb_rowsOf ha hb
theorem resV_VG {rs : List Int} (g : VG rs) (S : Nat) : VG (resV rs S) := rowsOf_VG g.pos g.le (fun i hi => by rw [eb_irr g hi, Bool.and_false]) fun i hi j hj => by rw [eb_sym g hi hj, Bool.and_comm (S.testBit i)]
theorem resV_all {rs : List Int} (g : VG rs) : resV rs (2 ^ rs.length - 1) = rs := by
  refine eb_ext (resV_VG g _) g (resV_len _ _) fun a ha b hb => ?_
  rw [resV_len] at ha hb
  rw [resV_eb ha hb, all_bit.2 ha, all_bit.2 hb]; rfl
theorem resV_zero {rs : List Int} (_g : VG rs) : resV rs 0 = List.replicate rs.length 0 := by
  refine gi_ext (by rw [resV_len, List.length_replicate]) fun i hi => ?_
  rw [resV_len] at hi
  unfold resV
  rw [rowsOf_at hi]
  have : accB (fun b => (0 : Nat).testBit i && (0 : Nat).testBit b && eb rs i b) rs.length = 0 := by
    apply Nat.eq_of_testBit_eq
    intro j
    rw [accB_bit, Nat.zero_testBit]; simp
  rw [this]; simp [gi, hi]
theorem minus_bit {S v i : Nat} (h7 : S < 128) (hv : S.testBit v = true) : (S - 2 ^ v).testBit i = true ↔ S.testBit i = true ∧ i ≠ v := by
  rw [← nDiff_minus h7 (pow_sub hv), nDiff_bit, Bool.eq_false_iff, ne_eq, pow_bit]
  exact ⟨fun h => ⟨h.1, fun e => h.2 e.symm⟩, fun h => ⟨h.1, fun e => h.2 e.symm⟩⟩
/-- What a prune lays into the graph without its vertex: the vertex' neighbours. -/
theorem prune_put {rs : List Int} (g : VG rs) {S v : Nat} (hS : S < 2 ^ rs.length) (hv : S.testBit v = true) {p : Prn} (hp : pruneV rs S v = some p) :
    putOk rs.length (S - 2 ^ v) (p.2.1 : Int) p.2.2 = true ∧ ∀ i, (putT (resV rs (S - 2 ^ v)) (p.2.1 : Int) p.2.2).testBit i = true ↔ S.testBit i = true ∧ ad rs v i = true := by
  have h7 : S < 128 := by have := g.pow.1; omega
  have hvl := testBit_lt hS hv
  have hT7 : gn rs v &&& S < 128 := Nat.lt_of_le_of_lt Nat.and_le_left (g.lt128 hvl)
  have hbit := fun i => minus_bit (i := i) h7 hv
  by_cases h0 : gn rs v &&& S = 0
  · rw [pruneV_0 h0] at hp
    obtain rfl := Option.some.inj hp
    refine ⟨by unfold putOk; simp, fun i => ?_⟩
    show (0 : Nat).testBit i = true ↔ _
    constructor
    · intro h; simp at h
    · rintro ⟨h1, h2⟩
      have : (gn rs v &&& S).testBit i = true := and_bit.2 ⟨h2, h1⟩
      rw [h0] at this; exact this
  · by_cases h1 : cnt (gn rs v &&& S) = 1
    · rw [pruneV_1 h0 h1] at hp
      obtain rfl := Option.some.inj hp
      obtain ⟨l1, -, -⟩ := low_facts hT7 h0
      generalize low (gn rs v &&& S) = a at *
      obtain ⟨l2, l3⟩ := and_bit.1 l1
      have hav : a ≠ v := fun e => by subst e; rw [g.irr a hvl] at l2; cases l2
      have hal := testBit_lt hS l3
      refine ⟨decide_eq_true ⟨⟨by show (0 : Int) ≤ ((1 : Nat) : Int); omega, by show ((1 : Nat) : Int) ≤ 3; omega⟩, fun h => absurd h (by show ¬((1 : Nat) : Int) = 0; omega), fun _ => ⟨by show (0 : Int) ≤ (a : Int); omega, by show (a : Int) ≤ (rs.length : Int) - 1; omega, by show (S - 2 ^ v).testBit ((a : Int).toNat) = true; rw [Int.toNat_natCast]; exact (hbit a).2 ⟨l3, hav⟩⟩⟩, fun i => ?_⟩
      show (2 ^ (a : Int).toNat).testBit i = true ↔ _
      rw [Int.toNat_natCast, pow_bit]
      constructor
      · rintro rfl; exact ⟨l3, l2⟩
      · rintro ⟨h2, h3⟩
        exact cnt1_of hT7 h1 l1 (and_bit.2 ⟨h3, h2⟩)
    · cases h2 : firstB (tw2 rs S v) rs.length with
      | some w =>
        rw [pruneV_2 h0 h1 h2] at hp
        obtain rfl := Option.some.inj hp
        obtain ⟨hwl, ht⟩ := firstB_some h2
        obtain ⟨p1, p2, p3⟩ := tw2_parts ht
        have ht2 := (tw2_iff g hS hv p2 p1 p3).1 ht
        refine ⟨decide_eq_true ⟨⟨by show (0 : Int) ≤ ((2 : Nat) : Int); omega, by show ((2 : Nat) : Int) ≤ 3; omega⟩, fun h => absurd h (by show ¬((2 : Nat) : Int) = 0; omega), fun _ => ⟨by show (0 : Int) ≤ (w : Int); omega, by show (w : Int) ≤ (rs.length : Int) - 1; omega, by show (S - 2 ^ v).testBit ((w : Int).toNat) = true; rw [Int.toNat_natCast]; exact (hbit w).2 ⟨p2, p1⟩⟩⟩, fun i => ?_⟩
        show (gn (resV rs (S - 2 ^ v)) (w : Int).toNat).testBit i = true ↔ _
        rw [Int.toNat_natCast]
        have hwS : (S - 2 ^ v).testBit w = true := (hbit w).2 ⟨p2, p1⟩
        constructor
        · intro h
          have hi : i < rs.length := by
            have := (ad_lt (resV_VG g (S - 2 ^ v)) h).2
            rwa [resV_len] at this
          have h3 : eb (resV rs (S - 2 ^ v)) w i = true := h
          rw [resV_eb hwl hi, hwS, Bool.true_and, Bool.and_eq_true] at h3
          obtain ⟨h4, h5⟩ := (hbit i).1 h3.1
          have hiw : i ≠ w := fun e => by subst e; rw [eb_irr g hi] at h3; cases h3.2
          exact ⟨h4, by rw [ht2 i h4 h5 hiw]; exact h3.2⟩
        · rintro ⟨h3, h4⟩
          have hi := testBit_lt hS h3
          have hiv : i ≠ v := fun e => by subst e; rw [ad_irr g] at h4; cases h4
          have hiw : i ≠ w := fun e => by subst e; rw [p3] at h4; cases h4
          show eb (resV rs (S - 2 ^ v)) w i = true
          rw [resV_eb hwl hi, hwS, (hbit i).2 ⟨h3, hiv⟩]
          have h5 := ht2 i h3 hiv hiw
          rw [h4] at h5
          exact h5.symm
      | none =>
        cases h3 : firstB (tw3 rs S v) rs.length with
        | none => rw [pruneV_no h0 h1 h2 h3] at hp; cases hp
        | some w =>
          rw [pruneV_3 h0 h1 h2 h3] at hp
          obtain rfl := Option.some.inj hp
          obtain ⟨hwl, ht⟩ := firstB_some h3
          obtain ⟨p2, p3⟩ := tw3_parts ht
          have p1 : w ≠ v := fun e => by subst e; rw [ad_irr g] at p3; cases p3
          have ht2 := (tw3_iff g hS hv p2 p3).1 ht
          refine ⟨decide_eq_true ⟨⟨by show (0 : Int) ≤ ((3 : Nat) : Int); omega, by show ((3 : Nat) : Int) ≤ 3; omega⟩, fun h => absurd h (by show ¬((3 : Nat) : Int) = 0; omega), fun _ => ⟨by show (0 : Int) ≤ (w : Int); omega, by show (w : Int) ≤ (rs.length : Int) - 1; omega, by show (S - 2 ^ v).testBit ((w : Int).toNat) = true; rw [Int.toNat_natCast]; exact (hbit w).2 ⟨p2, p1⟩⟩⟩, fun i => ?_⟩
          show (gn (resV rs (S - 2 ^ v)) (w : Int).toNat ||| 2 ^ (w : Int).toNat).testBit i = true ↔ _
          rw [Int.toNat_natCast, or_bit, pow_bit]
          have hwS : (S - 2 ^ v).testBit w = true := (hbit w).2 ⟨p2, p1⟩
          constructor
          · rintro (h | rfl)
            · have hi : i < rs.length := by
                have := (ad_lt (resV_VG g (S - 2 ^ v)) h).2
                rwa [resV_len] at this
              have h3 : eb (resV rs (S - 2 ^ v)) w i = true := h
              rw [resV_eb hwl hi, hwS, Bool.true_and, Bool.and_eq_true] at h3
              obtain ⟨h4, h5⟩ := (hbit i).1 h3.1
              have hiw : i ≠ w := fun e => by subst e; rw [eb_irr g hi] at h3; cases h3.2
              exact ⟨h4, by rw [ht2 i h4 h5 hiw]; exact h3.2⟩
            · exact ⟨p2, p3⟩
          · rintro ⟨h3, h4⟩
            by_cases hiw : i = w
            · exact .inr hiw.symm
            · left
              have hi := testBit_lt hS h3
              have hiv : i ≠ v := fun e => by subst e; rw [ad_irr g] at h4; cases h4
              show eb (resV rs (S - 2 ^ v)) w i = true
              rw [resV_eb hwl hi, hwS, (hbit i).2 ⟨h3, hiv⟩]
              have h5 := ht2 i h3 hiv hiw
              rw [h4] at h5
              exact h5.symm
theorem prune_join {rs : List Int} (g : VG rs) {S v T : Nat} (hS : S < 2 ^ rs.length) (hv : S.testBit v = true) (hT : ∀ i, T.testBit i = true ↔ S.testBit i = true ∧ ad rs v i = true) : joinV (resV rs (S - 2 ^ v)) v T (cnt T) = resV rs S := by
  have h7 : S < 128 := by have := g.pow.1; omega
  have hvl := testBit_lt hS hv
  have hbit := fun i => minus_bit (i := i) h7 hv
  have hT7 : T < 128 := by
    have : T < 2 ^ 7 := Nat.lt_pow_two_of_testBit _ fun i hi => by
      rw [Bool.eq_false_iff]
      intro h
      have h2 := ((hT i).1 h).1
      rw [testBit_ge (N := 7) h7 hi] at h2; cases h2
    exact this
  have hTv : T.testBit v = false := by
    rw [Bool.eq_false_iff]
    intro h
    have := (hT v).1 h
    rw [ad_irr g] at this; cases this.2
  refine eb_ext (joinV_VG (resV_VG g _) hT7 hTv) (resV_VG g _) (by rw [joinV_len, resV_len, resV_len]) fun a ha b hb => ?_
  rw [joinV_len, resV_len] at ha hb
  rw [joinV_eb hT7 (by rw [resV_len]; exact ha) (by rw [resV_len]; exact hb), resV_eb ha hb, resV_eb ha hb]
  simp only [Bool.and_eq_true, hbit]
  constructor
  · rintro (⟨⟨⟨h1, -⟩, h2, -⟩, h3⟩ | ⟨w, hw, h⟩)
    · exact ⟨⟨h1, h2⟩, h3⟩
    · obtain ⟨h1, h2⟩ := (hT w).1 hw
      rw [isE_true] at h
      rcases h with ⟨rfl, rfl⟩ | ⟨rfl, rfl⟩
      · exact ⟨⟨hv, h1⟩, h2⟩
      · exact ⟨⟨h1, hv⟩, by rw [eb_sym g ha hb]; exact h2⟩
  · rintro ⟨⟨h1, h2⟩, h3⟩
    by_cases ea : a = v
    · subst ea
      exact .inr ⟨b, (hT b).2 ⟨h2, h3⟩, isE_true.2 (.inl ⟨rfl, rfl⟩)⟩
    · by_cases eb' : b = v
      · subst eb'
        exact .inr ⟨a, (hT a).2 ⟨h1, by show eb rs b a = true; rw [eb_sym g hb ha]; exact h3⟩, isE_true.2 (.inr ⟨rfl, rfl⟩)⟩
      · exact .inl ⟨⟨⟨h1, ea⟩, h2, eb'⟩, h3⟩
/-- The prunes from a set down to another. -/
inductive Seg (rs : List Int) : Nat → List Prn → Nat → Prop
  | nil (S : Nat) : Seg rs S [] S
  | snoc {S S1 v : Nat} {l : List Prn} {p : Prn} (h : Seg rs S l S1) (hv : S1.testBit v = true) (hp : pruneV rs S1 v = some p) : Seg rs S (l ++ [p]) (S1 - 2 ^ v)
theorem run_seg {rs : List Int} (g : VG rs) {S0 : Nat} : ∀ (f S : Nat) (ps qs : List Prn), S < 2 ^ rs.length → cnt S ≤ f → Seg rs S0 ps S → pruneRun rs f S ps = some qs → Seg rs S0 qs 0
  | 0, S, ps, qs, hS, hc, hs, h => by
    have h0 : S = 0 := Classical.byContradiction fun h => by
      have := cnt_pos hS g.le (Nat.pos_of_ne_zero h)
      have e : (els S).length = cnt S := rfl
      omega
    subst h0
    obtain rfl := Option.some.inj (show some ps = some qs from h)
    exact hs
  | f + 1, S, ps, qs, hS, hc, hs, h => by
    by_cases h0 : S = 0
    · subst h0
      rw [pruneRun_zero] at h
      obtain rfl := Option.some.inj h
      exact hs
    · cases hn : nextV rs S with
      | none => rw [pruneRun_none h0 hn] at h; cases h
      | some v =>
        have h1 := (firstB_some hn).2
        simp only [Bool.and_eq_true] at h1
        obtain ⟨hv, hs2⟩ := h1
        cases hp : pruneV rs S v with
        | none => rw [hp] at hs2; cases hs2
        | some p =>
          rw [pruneRun_some h0 hn hp] at h
          obtain ⟨m1, m2⟩ := minus_facts g.le hS hv
          exact run_seg g f _ _ _ m1 (by omega) (.snoc hs hv hp) h
theorem Seg.facts {rs : List Int} (g : VG rs) {S0 : Nat} (h0 : S0 < 2 ^ rs.length) {ps : List Prn} {S : Nat} (h : Seg rs S0 ps S) : S < 2 ^ rs.length ∧ (ps.map (·.1)).Nodup ∧ (∀ v, S0.testBit v = true ↔ v ∈ ps.map (·.1) ∨ S.testBit v = true) ∧ ∀ v, v ∈ ps.map (·.1) → S.testBit v = false := by
  induction h with
  | nil => exact ⟨h0, List.nodup_nil, fun v => by simp, fun v hv => by simp at hv⟩
  | snoc h hv hp ih =>
    obtain ⟨i1, i2, i3, i4⟩ := ih
    have hpv := pruneV_vertex hp
    have h7 : _ < 128 := Nat.lt_of_lt_of_le i1 g.pow.1
    have hbit := fun i => minus_bit (i := i) h7 hv
    refine ⟨(minus_facts g.le i1 hv).1, ?_, fun x => ?_, fun x hx => ?_⟩
    · rw [List.map_append, List.nodup_append]
      refine ⟨i2, by simp, fun a ha b hb e => ?_⟩
      simp at hb
      subst e; subst hb
      rw [hpv] at ha
      rw [i4 _ ha] at hv; cases hv
    · rw [i3 x, hbit, List.map_append, List.mem_append]
      simp only [List.map_cons, List.map_nil, List.mem_singleton, hpv]
      constructor
      · rintro (h | h)
        · exact .inl (.inl h)
        · exact (Classical.em _).elim (fun e => .inl (.inr e)) fun e => .inr ⟨h, e⟩
      · rintro ((h | rfl) | h)
        · exact .inl h
        · exact .inr hv
        · exact .inr h.1
    · rw [Bool.eq_false_iff]
      intro hb
      obtain ⟨h1, h2⟩ := (hbit x).1 hb
      rw [List.map_append, List.mem_append] at hx
      simp only [List.map_cons, List.map_nil, List.mem_singleton, hpv] at hx
      rcases hx with hx | hx
      · rw [i4 x hx] at h1; cases h1
      · exact h2 hx
theorem put_seg {rs : List Int} (g : VG rs) {S0 : Nat} (h0 : S0 < 2 ^ rs.length) {l : List Int} {ps : List Prn} {S : Nat} (h : Seg rs S0 ps S) (hl : ∀ i (hi : i < ps.length), pv l i = (ps[i].1 : Int) ∧ pk l i = (ps[i].2.1 : Int) ∧ pa l i = ps[i].2.2) : putRun l rs.length ps.length (resV rs S) S = some (resV rs S0) := by
  induction h with
  | nil => rfl
  | @snoc S1 v l' p h hv hp ih =>
    obtain ⟨i1, -, -, -⟩ := h.facts g h0
    have h7 : S1 < 128 := Nat.lt_of_lt_of_le i1 g.pow.1
    obtain ⟨k1, k2⟩ := prune_put g i1 hv hp
    have hpv := pruneV_vertex hp
    obtain ⟨e1, e2, e3⟩ := hl l'.length (by simp)
    rw [List.getElem_concat_length rfl] at e1 e2 e3
    have hle : 2 ^ v ≤ S1 := (pow_sub hv).le
    rw [List.length_append, List.length_cons, List.length_nil, putRun_go (by rw [e2, e3]; exact k1), e1, e2, e3, hpv, Int.toNat_natCast, prune_join g i1 hv k2, Nat.sub_add_cancel hle]
    exact ih fun i hi => by
      have := hl i (by rw [List.length_append]; omega)
      rwa [List.getElem_append_left hi] at this
theorem flatP_at (ps : List Prn) : ∀ i (hi : i < ps.length), pv (flatP ps) i = (ps[i].1 : Int) ∧ pk (flatP ps) i = (ps[i].2.1 : Int) ∧ pa (flatP ps) i = ps[i].2.2 := by
  induction ps with
  | nil => intro i hi; simp at hi
  | cons p ps ih =>
    intro i hi
    have e : flatP (p :: ps) = (p.1 : Int) :: (p.2.1 : Int) :: p.2.2 :: flatP ps := rfl
    match i, hi with
    | 0, _ => rw [e]; exact ⟨rfl, rfl, rfl⟩
    | i + 1, hi =>
      have := ih i (by simpa using hi)
      rw [e, List.getElem_cons_succ]
      have hs : ∀ k, gi ((p.1 : Int) :: (p.2.1 : Int) :: p.2.2 :: flatP ps) (i * 3 + k + 3) = gi (flatP ps) (i * 3 + k) := fun k => rfl
      unfold pv pk pa at *
      rw [show (i + 1) * 3 = i * 3 + 0 + 3 by omega, show i * 3 + 0 + 3 + 1 = i * 3 + 1 + 3 by omega, show i * 3 + 0 + 3 + 2 = i * 3 + 2 + 3 by omega]
      exact this
/-- A graph is put together again from its prunes. -/
theorem put_back {rs : List Int} (hg : isGraphB rs.length rs = true) {ps : List Prn} (h : prunesV rs.length rs = some ps) : ps.length = rs.length ∧ putV (flatP ps) ps.length = some rs := by
  have g := (VG.of hg).2
  rw [prunesV_of hg] at h
  have hs := run_seg g _ _ _ _ (all_lt _) (cnt_leN (all_lt _) g.le) (.nil _) h
  obtain ⟨-, f2, f3, -⟩ := hs.facts g (all_lt _)
  have hmem : ∀ v, v ∈ ps.map (·.1) ↔ v < rs.length := fun v => by
    have := f3 v
    rw [all_bit, Nat.zero_testBit] at this
    simpa using this.symm
  have hlen : ps.length = rs.length := by
    have h1 : (ps.map (·.1)).Perm (List.range rs.length) := (List.perm_ext_iff_of_nodup f2 List.nodup_range).2 fun v => by rw [hmem, List.mem_range]
    have := h1.length_eq
    simpa using this
  have hat := flatP_at ps
  have hpm : pvs (flatP ps) ps.length = (ps.map (·.1)).map fun i : Nat => (i : Int) := by
    refine List.ext_getElem (by simp [pvs_len]) fun i h1 h2 => ?_
    rw [pvs_len] at h1
    have h3 := (hat i h1).1
    simp [pvs, h3]
  have hperm : permB (pvs (flatP ps) ps.length) = true := by
    unfold permB
    have h1 := g.pos
    have h2 := g.le
    rw [pvs_len, decide_eq_true (by omega), decide_eq_true (by omega)]
    have h3 : sortI (pvs (flatP ps) ps.length) = idL (pvs (flatP ps) ps.length).length := by
      rw [sortI_id, pvs_len, hpm]
      refine (List.perm_ext_iff_of_nodup ((List.pairwise_map.2 (f2.imp fun h e => h (by omega)))) (idL_nodup _)).2 fun x => ?_
      rw [idL_mem, List.mem_map]
      constructor
      · rintro ⟨a, ha, rfl⟩
        have := (hmem a).1 ha
        omega
      · rintro ⟨h4, h5⟩
        exact ⟨x.toNat, (hmem _).2 (by omega), by omega⟩
    rw [pvs_len] at h3
    rw [h3, decide_eq_true rfl]; rfl
  refine ⟨hlen, ?_⟩
  rw [putV_of hperm, ← resV_all g]
  have := put_seg g (all_lt _) hs hat
  rw [resV_zero g] at this
  rw [resV_all g] at this ⊢
  rw [hlen] at this ⊢
  exact this

/-! ### What is put together can be pruned -/
theorem put_ob {l : List Int} {K : Nat} (h6 : K ≤ 6) (hp : permB (pvs l K) = true) : ∀ (i S : Nat) (rs qs : List Int), i ≤ K → PutI l K i rs S → cnt S = K - i → ¬obP rs S → putRun l K i rs S = some qs → ∃ T, PutI l K 0 qs T ∧ cnt T = K ∧ ¬obP qs T
  | 0, S, rs, qs, _, h, hc, ho, hr => by
    obtain rfl := Option.some.inj (show some rs = some qs from hr)
    exact ⟨S, h, hc, ho⟩
  | i + 1, S, rs, qs, hi, h, hc, ho, hr => by
    cases hk : putOk K S (pk l i) (pa l i)
    · rw [putRun_no hk] at hr; cases hr
    · rw [putRun_go hk] at hr
      have hst := h.step hp (by omega) hk
      obtain ⟨v0, vK, vS⟩ := h.vertex hp (by omega)
      obtain ⟨hT, hT7, hTv⟩ := h.nb hp (by omega) hk
      have hw := fun u => h.within hk (u := u)
      have hmiss := fun u hu => h.miss hp (by omega : i < K) (u := u) hu
      have hl := h.len
      have hl2 := hst.len
      obtain ⟨o1, o2, o3⟩ := putOk_true hk
      have hTe : ∃ v, v = (pv l i).toNat := ⟨_, rfl⟩
      obtain ⟨v, ev⟩ := hTe
      rw [← ev] at hr hst vS hTv hmiss hl2
      have hvK : v < K := by omega
      generalize hTT : putT rs (pk l i) (pa l i) = T at *
      have heb : ∀ a b, a < K → b < K → (ad (joinV rs v T (cnt T)) a b = true ↔ ad rs a b = true ∨ ∃ w, T.testBit w = true ∧ isE v w a b = true) := fun a b ha hb => joinV_eb hT7 (by omega) (by omega)
      have hvb : (S + 2 ^ v).testBit v = true := (hst.set v).2 ⟨i, Nat.le_refl _, by omega, by omega⟩
      have hSl := hst.lt
      have hS' : S + 2 ^ v - 2 ^ v = S := Nat.add_sub_cancel _ _
      have hS128 : S + 2 ^ v < 128 := by
        have := hst.vg.pow.1
        rw [hl2] at this
        omega
      have hmb := fun x => minus_bit (i := x) hS128 hvb
      rw [hS'] at hmb
      have hcnt : cnt (S + 2 ^ v) = cnt S + 1 := by
        have := (minus_facts (N := K) (by omega) hSl hvb).2
        rwa [hS'] at this
      refine put_ob h6 hp i _ _ _ (by omega) hst (by omega) (fun hob => ho ?_) hr
      -- the neighbours of v within the new set
      have hvn : ∀ c, c < K → (ad (joinV rs v T (cnt T)) v c = true ↔ T.testBit c = true) := fun c hc' => by
        rw [heb v c hvK hc']
        constructor
        · rintro (h1 | ⟨w, h1, h2⟩)
          · have h3 : eb rs v c = true := h1
            rw [hmiss c hc'] at h3; cases h3
          · rw [isE_true] at h2
            rcases h2 with ⟨-, rfl⟩ | ⟨rfl, rfl⟩
            · exact h1
            · exact h1
        · intro h1
          exact .inr ⟨c, h1, isE_true.2 (.inl ⟨rfl, rfl⟩)⟩
      have hold : ∀ a b, a < K → b < K → a ≠ v → b ≠ v → ad (joinV rs v T (cnt T)) a b = ad rs a b := fun a b ha hb h1 h2 => by
        rw [Bool.eq_iff_iff, heb a b ha hb]
        constructor
        · rintro (h3 | ⟨w, -, h4⟩)
          · exact h3
          · rw [isE_true] at h4
            rcases h4 with ⟨h5, -⟩ | ⟨-, h5⟩
            · exact absurd h5 h1
            · exact absurd h5 h2
        · exact fun h3 => .inl h3
      have hpr : prunP (joinV rs v T (cnt T)) (S + 2 ^ v) v := by
        by_cases hk2 : 2 ≤ pk l i
        · left
          obtain ⟨a0, aK, aS⟩ := o3 (by omega)
          refine ⟨(pa l i).toNat, ((hmb _).1 aS).1, ((hmb _).1 aS).2, fun c hc1 hc2 hc3 => ?_⟩
          have hcK := testBit_lt hSl hc1
          have haK : (pa l i).toNat < K := by omega
          rw [hold _ c haK hcK ((hmb _).1 aS).2 hc2, Bool.eq_iff_iff, hvn c hcK, ← hTT]
          rcases (by omega : pk l i = 2 ∨ pk l i = 3) with e | e
          · rw [e]; exact Iff.rfl
          · rw [e]
            show (gn rs (pa l i).toNat ||| 2 ^ (pa l i).toNat).testBit c = true ↔ _
            rw [or_bit, pow_bit]
            exact ⟨fun h => h.resolve_right fun e => hc3 e.symm, .inl⟩
        · right
          intro a b ha hb h1 h2
          have haK := testBit_lt hSl ha
          have hbK := testBit_lt hSl hb
          rw [hvn a haK, ← hTT] at h1
          rw [hvn b hbK, ← hTT] at h2
          rcases (by omega : pk l i = 0 ∨ pk l i = 1) with e | e
          · rw [e] at h1
            have h3 : (0 : Nat).testBit a = true := h1
            simp at h3
          · rw [e] at h1 h2
            have h3 := pow_bit.1 (show (2 ^ (pa l i).toNat).testBit a = true from h1)
            have h4 := pow_bit.1 (show (2 ^ (pa l i).toNat).testBit b = true from h2)
            omega
      have hb2 := ob_back hst.vg (by rw [hl2]; exact h6) (by rw [hl2]; exact hSl) hvb hpr hob
      rw [hS'] at hb2
      exact obP_congr hst.vg h.vg (by rw [hl2, hl]) (by rw [hl2]; exact h6) (by rw [hl2]; exact h.lt) (fun a b ha hb => hold a b (testBit_lt h.lt ha) (testBit_lt h.lt hb) (((hmb a).1 ha).2) (((hmb b).1 hb).2)) hb2
theorem put_prunes {l : List Int} {K : Nat} (h6 : K ≤ 6) {qs : List Int} (h : putV l K = some qs) : qs.length = K ∧ isGraphB K qs = true ∧ (prunesV K qs).isSome = true := by
  cases hp : permB (pvs l K)
  · rw [putV_no hp] at h; cases h
  · rw [putV_of hp] at h
    obtain ⟨T, h1, h2, h3⟩ := put_ob h6 hp K 0 _ _ (Nat.le_refl _) (.start hp) (by rw [Nat.sub_self]; rfl) (obP_zero _) h
    have hl := h1.len
    have hT := h1.lt
    have hg := h1.vg.graph
    have e : T = 2 ^ K - 1 := Classical.byContradiction fun hne => by
      have h7 : 2 ^ K ≤ 2 ^ 6 := Nat.pow_le_pow_right (by decide) h6
      have h4 := cnt_lt (by omega : 2 ^ K - 1 < 128) (sub_all hT) hne
      have h5 := cnt_leN (all_lt K) (by omega)
      omega
    rw [hl] at hg
    refine ⟨hl, hg, ?_⟩
    have := (prunes_iff (rs := qs) (by rw [hl]; exact hg) (by rw [hl]; exact h6)).2 (by rw [hl, ← e]; exact h3)
    rwa [hl] at this

/-- What FnHereditary tells of a graph. -/
theorem her_facts (x : Int) (f : List Int) (h6 : f.length ≤ 6) :
    (isGraphB x f = false ∧ (prunesV x f).isSome = false ∧ (strO x f).isSome = false) ∨ (isGraphB x f = true ∧ (prunesV x f).isSome = true ∧ (strO x f).isSome = false) ∨
    (isGraphB x f = true ∧ (prunesV x f).isSome = false ∧ (strO x f).isSome = true ∧ keepB x f (leastI (strO x f)) = false) := by
  cases hv : isGraphB x f
  · left
    rw [prunesV_no hv, show strO x f = none from leastO_no hv]
    exact ⟨rfl, rfl, rfl⟩
  · right
    obtain ⟨rfl, -⟩ := VG.of hv
    have h := stretch_iff hv h6
    cases hp : (prunesV f.length f).isSome
    · right
      rw [hp] at h
      refine ⟨rfl, rfl, h, ?_⟩
      cases hs : strO f.length f with
      | none => rw [hs] at h; cases h
      | some k => exact strO_keep hs
    · left
      rw [hp] at h
      exact ⟨rfl, rfl, h⟩
theorem her_put (x : Int) (f : List Int) (h : (prunesV x f).isSome = true) : x = f.length ∧ putV (flatP ((prunesV x f).getD [])) ((prunesV x f).getD []).length = some f := by
  cases hv : isGraphB x f
  · rw [prunesV_no hv] at h; cases h
  · obtain ⟨rfl, -⟩ := VG.of hv
    cases hp : prunesV f.length f with
    | none => rw [hp] at h; cases h
    | some ps => exact ⟨rfl, (put_back hv hp).2⟩
theorem her_back (l : List Int) (K : Nat) (h6 : K ≤ 6) : ((putV l K).getD []).length ≤ 6 ∧ ((putV l K).isSome = true → (prunesV ((putV l K).getD []).length ((putV l K).getD [])).isSome = true) := by
  cases hp : putV l K with
  | none => exact ⟨by simp, fun h => by cases h⟩
  | some qs =>
    obtain ⟨h1, h2, h3⟩ := put_prunes h6 hp
    refine ⟨by show qs.length ≤ 6; omega, fun _ => ?_⟩
    show (prunesV (qs.length : Int) qs).isSome = true
    rw [h1]; exact h3

end Go.Proofs.YtjikmjhpmkakoaaGreatDoor
