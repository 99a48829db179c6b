/-
  Graphs without a path of four vertices: a set of two or more falls apart in the graph or in the complement; the parts of a set. No conditions.
  Twins are taken away to the end exactly where there is no path of four vertices. No conditions.
-/
import Derived.Test.YtjikmjhpmkakoaaGreatDoorPkCardCographs17
import Derived.Test.YtjikmjhpmkakoaaGreatDoorPkCardCographs18
namespace Go.Proofs.YtjikmjhpmkakoaaGreatDoor

/-- Each is the complement of the other. -/
structure Co (f h : List Int) : Prop where
  gf : VG f
  gh : VG h
  len : f.length = h.length
  opp : ∀ a b, a < f.length → b < f.length → a ≠ b → ad h a b = !ad f a b
theorem Co.symm {f h : List Int} (c : Co f h) : Co h f := ⟨c.gh, c.gf, c.len.symm, fun a b ha hb hne => by rw [c.opp a b (by rw [c.len]; exact ha) (by rw [c.len]; exact hb) hne, Bool.not_not]⟩
theorem Co.compl {f : List Int} (g : VG f) : Co f (compl f) := by
  refine ⟨g, (VG.of (compl_graph g)).2, (compl_len f).symm, fun a b ha hb hne => ?_⟩
  rw [Bool.eq_iff_iff, compl_ad2, Bool.not_eq_true']
  exact ⟨fun h => h.2.2.2, fun h => ⟨ha, hb, hne, h⟩⟩
theorem Co.noP4 {f h : List Int} (c : Co f h) (hp : noP4 f) : noP4 h := by
  intro a b c' d ab bc cd ac bd ad'
  obtain ⟨ha, hb⟩ := ad_lt c.gh ab
  obtain ⟨hc, hd⟩ := ad_lt c.gh cd
  have el := c.len
  have nac : a ≠ c' := fun e => by subst e; rw [cd] at ad'; cases ad'
  have nbd : b ≠ d := fun e => by subst e; rw [ab] at ad'; cases ad'
  have nad : a ≠ d := fun e => by subst e; rw [ad_symm c.gh, ab] at bd; cases bd
  have nab : a ≠ b := fun e => by subst e; rw [ad_irr c.gh] at ab; cases ab
  have nbc : b ≠ c' := fun e => by subst e; rw [ad_irr c.gh] at bc; cases bc
  have ncd : c' ≠ d := fun e => by subst e; rw [ad_irr c.gh] at cd; cases cd
  have yes : ∀ {x y : Nat}, x < h.length → y < h.length → x ≠ y → ad h x y = false → ad f x y = true := fun hx hy hne e => by
    rw [c.opp _ _ (by omega) (by omega) hne] at e
    simpa using e
  have no : ∀ {x y : Nat}, x < h.length → y < h.length → x ≠ y → ad h x y = true → ad f x y = false := fun hx hy hne e => by
    rw [c.opp _ _ (by omega) (by omega) hne] at e
    simpa using e
  exact hp b d a c' (yes hb hd nbd bd) (by rw [ad_symm c.gf]; exact yes ha hd nad ad') (yes ha hc nac ac) (by rw [ad_symm c.gf]; exact no ha hb nab ab) (by rw [ad_symm c.gf]; exact no hc hd ncd cd) (no hb hc nbc bc)

def cn (rs : List Int) (S u v : Nat) : Prop := ∃ n, rin rs S n u v
theorem cn.trans {rs : List Int} {S u x v : Nat} (h : cn rs S u x) (k : cn rs S x v) : cn rs S u v := by
  obtain ⟨n, h⟩ := h
  obtain ⟨m, k⟩ := k
  exact ⟨_, rin_trans h k⟩
theorem cn.symm {rs : List Int} (g : VG rs) {S u v : Nat} (hu : S.testBit u = true) (hv : S.testBit v = true) (h : cn rs S u v) : cn rs S v u := by
  obtain ⟨n, h⟩ := h
  exact ⟨n, rin_symm g hu hv h⟩
/-- The way from a vertex to another: its first step, then without the vertex. -/
theorem rin_head {rs : List Int} {S S' v : Nat} (hS' : ∀ i, S'.testBit i = true ↔ S.testBit i = true ∧ i ≠ v) : ∀ n y, S.testBit y = true → y ≠ v → rin rs S n v y → ∃ x, S'.testBit x = true ∧ ad rs v x = true ∧ cn rs S' x y
  | 0, y, _, hne, h => absurd (Eq.symm h) hne
  | n + 1, y, hy, hne, h => by
    rcases h with h | ⟨x, hx, h1, h2⟩
    · exact rin_head hS' n y hy hne h
    · by_cases e : x = v
      · subst e
        exact ⟨y, (hS' y).2 ⟨hy, hne⟩, h2, 0, rfl⟩
      · obtain ⟨x0, k1, k2, k, k3⟩ := rin_head hS' n x hx e h1
        exact ⟨x0, k1, k2, k + 1, .inr ⟨x, (hS' x).2 ⟨hx, e⟩, k3, h2⟩⟩
/-- On a way from a neighbour of v to none there are two next to each other, one a neighbour, the other not. -/
theorem rin_turn {rs : List Int} {S v x : Nat} (hx : ad rs v x = true) : ∀ k w, S.testBit w = true → rin rs S k x w → ad rs v w = false → ∃ x1 y1, S.testBit x1 = true ∧ S.testBit y1 = true ∧ cn rs S x x1 ∧ cn rs S x y1 ∧ ad rs x1 y1 = true ∧ ad rs v x1 = true ∧ ad rs v y1 = false
  | 0, w, _, h, hn => by
    have e : x = w := h
    rw [e, hn] at hx; cases hx
  | k + 1, w, hw, h, hn => by
    rcases h with h | ⟨z, hz, h1, h2⟩
    · exact rin_turn hx k w hw h hn
    · cases q : ad rs v z
      · exact rin_turn hx k z hz h1 q
      · exact ⟨z, w, hz, hw, ⟨k, h1⟩, ⟨k + 1, .inr ⟨z, hz, h1, h2⟩⟩, h2, q, hn⟩
theorem cog_step {f h : List Int} (c : Co f h) (hp : noP4 f) {S S' v : Nat} (hS : S < 2 ^ f.length) (hv : S.testBit v = true) (hS' : ∀ i, S'.testBit i = true ↔ S.testBit i = true ∧ i ≠ v) (hu : ∃ u, S'.testBit u = true)
    (cf : ∀ a b, S.testBit a = true → S.testBit b = true → cn f S a b) (ch : ∀ a b, S.testBit a = true → S.testBit b = true → cn h S a b) (hd : ∃ y z, S'.testBit y = true ∧ S'.testBit z = true ∧ ¬cn f S' y z) : False := by
  have g := c.gf
  obtain ⟨u, hu⟩ := hu
  obtain ⟨hu1, hu2⟩ := (hS' u).1 hu
  obtain ⟨n, hn⟩ := ch v u hv hu1
  obtain ⟨w, hw, hvw, -⟩ := rin_head hS' n u hu1 hu2 hn
  obtain ⟨hwS, hwv⟩ := (hS' w).1 hw
  have hvw2 : ad f v w = false := by
    rw [c.opp v w (testBit_lt hS hv) (testBit_lt hS hwS) fun e => hwv e.symm] at hvw
    simpa using hvw
  obtain ⟨n2, hn2⟩ := cf v w hv hwS
  obtain ⟨x, hx, hvx, k, hk⟩ := rin_head hS' n2 w hwS hwv hn2
  obtain ⟨x1, y1, hx1, hy1, cx1, cy1, exy, hvx1, hvy1⟩ := rin_turn hvx k w hw hk hvw2
  obtain ⟨d0, hd0, hdw⟩ : ∃ d0, S'.testBit d0 = true ∧ ¬cn f S' d0 w := by
    obtain ⟨y, z, hy, hz, hyz⟩ := hd
    by_cases h1 : cn f S' y w
    · exact ⟨z, hz, fun h2 => hyz (h1.trans (h2.symm g hz hw))⟩
    · exact ⟨y, hy, h1⟩
  obtain ⟨hd1, hd2⟩ := (hS' d0).1 hd0
  obtain ⟨n3, hn3⟩ := cf v d0 hv hd1
  obtain ⟨d, hdS, hvd, cdd⟩ := rin_head hS' n3 d0 hd1 hd2 hn3
  have hdx : ¬cn f S' d x := fun h1 => hdw (((cdd.symm g hdS hd0)).trans (h1.trans ⟨k, hk⟩))
  have n1 : ad f d x1 = false := bfalse fun h1 => hdx (cn.trans ⟨1, rin_step hdS h1⟩ (cx1.symm g hx hx1))
  have n2 : ad f d y1 = false := bfalse fun h1 => hdx (cn.trans ⟨1, rin_step hdS h1⟩ (cy1.symm g hx hy1))
  exact hp d v x1 y1 (by rw [ad_symm g]; exact hvd) hvx1 exy n1 hvy1 n2
theorem minus_bit2 {S v i : Nat} (h7 : S < 128) (hv : S.testBit v = true) : (S - 2 ^ v).testBit i = true ↔ S.testBit i = true ∧ i ≠ v := by
  rw [← nDiff_minus h7 (pow_sub hv), nDiff_bit, Bool.eq_false_iff, ne_eq, pow_bit]
  exact ⟨fun h => ⟨h.1, fun e => h.2 e.symm⟩, fun h => ⟨h.1, fun e => h.2 e.symm⟩⟩
theorem cog_split {f h : List Int} (c : Co f h) (hp : noP4 f) : ∀ n S, cnt S = n → 2 ≤ n → S < 2 ^ f.length → (∀ a b, S.testBit a = true → S.testBit b = true → cn f S a b) → (∀ a b, S.testBit a = true → S.testBit b = true → cn h S a b) → False
  | 0, _, _, h2, _, _, _ => by omega
  | n + 1, S, hn, h2, hS, cf, ch => by
    have g := c.gf
    have h7 : S < 128 := by have := g.pow.1; omega
    have h0 : S ≠ 0 := fun e => by
      subst e
      have : cnt 0 = 0 := by decide
      omega
    obtain ⟨l1, -, -⟩ := low_facts h7 h0
    generalize low S = v at *
    obtain ⟨m1, m2⟩ := minus_facts g.le hS l1
    have hS' := fun i => minus_bit2 (i := i) h7 l1
    generalize S - 2 ^ v = S' at *
    have h7' : S' < 128 := by have := g.pow.1; omega
    have h0' : S' ≠ 0 := fun e => by
      subst e
      have : cnt 0 = 0 := by decide
      omega
    have hu : ∃ u, S'.testBit u = true := ⟨_, (low_facts h7' h0').1⟩
    by_cases h1 : cnt S' = 1
    · obtain ⟨u, hu⟩ := hu
      obtain ⟨hu1, hu2⟩ := (hS' u).1 hu
      obtain ⟨n1, r1⟩ := cf v u l1 hu1
      obtain ⟨x, hx, hvx, -⟩ := rin_head hS' n1 u hu1 hu2 r1
      obtain ⟨n2, r2⟩ := ch v u l1 hu1
      obtain ⟨y, hy, hvy, -⟩ := rin_head hS' n2 u hu1 hu2 r2
      obtain rfl := cnt1_of h7' h1 hx hy
      obtain ⟨hx1, hx2⟩ := (hS' x).1 hx
      rw [c.opp v x (testBit_lt hS l1) (testBit_lt hS hx1) fun e => hx2 e.symm, hvx] at hvy
      cases hvy
    · by_cases hf : ∀ a b, S'.testBit a = true → S'.testBit b = true → cn f S' a b
      · by_cases hh : ∀ a b, S'.testBit a = true → S'.testBit b = true → cn h S' a b
        · exact cog_split c hp n S' (by omega) (by omega) m1 hf hh
        · have : ∃ y z, S'.testBit y = true ∧ S'.testBit z = true ∧ ¬cn h S' y z := by
            refine Classical.byContradiction fun hc => hh fun a b ha hb => Classical.byContradiction fun hc2 => hc ⟨a, b, ha, hb, hc2⟩
          exact cog_step c.symm (c.noP4 hp) (by rw [← c.len]; exact hS) l1 hS' hu ch cf this
      · have : ∃ y z, S'.testBit y = true ∧ S'.testBit z = true ∧ ¬cn f S' y z := by
          refine Classical.byContradiction fun hc => hf fun a b ha hb => Classical.byContradiction fun hc2 => hc ⟨a, b, ha, hb, hc2⟩
        exact cog_step c hp hS l1 hS' hu cf ch this
/-- A set of two or more falls apart in the graph or in the complement. -/
theorem cog_parts {f h : List Int} (c : Co f h) (hp : noP4 f) {S : Nat} (hS : S < 2 ^ f.length) (h2 : 2 ≤ cnt S) : (partsOf f S).length ≠ 1 ∨ (partsOf h S).length ≠ 1 := by
  by_cases h1 : (partsOf f S).length = 1
  · right
    intro h3
    exact cog_split c hp _ S rfl h2 hS (fun a b ha hb => ⟨_, one_part c.gf hS h1 ha hb⟩) fun a b ha hb => ⟨_, one_part c.gh (by rw [← c.len]; exact hS) h3 ha hb⟩
  · exact .inl h1

/-! ### The parts of a set -/
structure Pts (rs : List Int) (S : Nat) (ps : List Nat) : Prop where
  each : ∀ Q ∈ ps, subN Q S ∧ Q ≠ 0
  sep : ps.Pairwise fun A B => ∀ a b, A.testBit a = true → B.testBit b = true → a ≠ b ∧ ad rs a b = false
  all : ∀ v, S.testBit v = true → ∃ Q ∈ ps, Q.testBit v = true
  own : ∀ Q ∈ ps, ∀ a b, Q.testBit a = true → S.testBit b = true → ad rs a b = true → Q.testBit b = true
theorem partsF_pts {rs : List Int} (g : VG rs) {S : Nat} (hS : S < 2 ^ rs.length) : ∀ fuel left, cnt left ≤ fuel → shut rs S left → Pts rs left (partsF rs S fuel left)
  | 0, left, hc, hs => by
    have h7 : S < 128 := by have := g.pow.1; omega
    have h0 : left = 0 := Classical.byContradiction fun h => by
      have := (low_facts (hs.1.lt h7) h).2.2
      have e : (els left).length = cnt left := rfl
      omega
    subst h0
    exact ⟨fun Q hQ => by simp [partsF] at hQ, by simp [partsF], fun v hv => by simp at hv, fun Q hQ => by simp [partsF] at hQ⟩
  | fuel + 1, left, hc, hs => by
    have h7 : S < 128 := by have := g.pow.1; omega
    have hl7 := hs.1.lt h7
    by_cases h0 : left = 0
    · subst h0
      rw [partsF_nil]
      exact ⟨fun Q hQ => by simp at hQ, by simp, fun v hv => by simp at hv, fun Q hQ => by simp at hQ⟩
    · obtain ⟨l1, l2, -⟩ := low_facts hl7 h0
      have hS1 : S.testBit (low left) = true := hs.1 _ l1
      have hc1 : 1 ≤ cnt (2 ^ low left) := by rw [cnt_pow l2]; exact Nat.le_refl _
      have hsub : subN (grow rs (2 ^ low left) S) left := shut_stepN hl7 hs (pow_sub l1) _
      have hsh := shut_grow g hS (pow_sub hS1) hc1
      have hlow : (grow rs (2 ^ low left) S).testBit (low left) = true := sub_stepN h7 (pow_sub hS1) _ _ (pow_bit.2 rfl)
      have e : partsF rs S (fuel + 1) left = grow rs (2 ^ low left) S :: partsF rs S fuel (nDiff left (grow rs (2 ^ low left) S)) := by
        show (if left = 0 then _ else _) = _
        rw [if_neg h0]
      rw [e]
      generalize grow rs (2 ^ low left) S = P at *
      have hlt : cnt (nDiff left P) < cnt left := cnt_lt hl7 (nDiff_sub _ _) (fun e => by
        rw [← e] at l1
        have := (nDiff_bit.1 l1).2
        rw [e] at this
        rw [hlow] at this; cases this)
      have ih := partsF_pts g hS fuel (nDiff left P) (by omega) (shut_diff g hS hs hsh)
      generalize partsF rs S fuel (nDiff left P) = ps at *
      refine ⟨fun Q hQ => ?_, ?_, fun v hv => ?_, fun Q hQ a b ha hb hab => ?_⟩
      · rcases List.mem_cons.1 hQ with rfl | hQ
        · exact ⟨hsub, fun e => by rw [e] at hlow; simp at hlow⟩
        · exact ⟨(ih.each Q hQ).1.trans (nDiff_sub _ _), (ih.each Q hQ).2⟩
      · refine List.pairwise_cons.2 ⟨fun Q hQ a b ha hb => ?_, ih.sep⟩
        have hbn := nDiff_bit.1 ((ih.each Q hQ).1 b hb)
        refine ⟨fun e => ?_, bfalse fun h => ?_⟩
        · subst e; rw [ha] at hbn; cases hbn.2
        · have := hsh.2 a b ha (hs.1 b hbn.1) h
          rw [hbn.2] at this; cases this
      · cases q : P.testBit v
        · obtain ⟨Q, hQ, h⟩ := ih.all v (nDiff_bit.2 ⟨hv, q⟩)
          exact ⟨Q, List.mem_cons_of_mem _ hQ, h⟩
        · exact ⟨P, by simp, q⟩
      · rcases List.mem_cons.1 hQ with rfl | hQ
        · exact hsh.2 a b ha (hs.1 b hb) hab
        · refine ih.own Q hQ a b ha (nDiff_bit.2 ⟨hb, bfalse fun h => ?_⟩) hab
          have han := nDiff_bit.1 ((ih.each Q hQ).1 a ha)
          have := hsh.2 b a h (hs.1 a han.1) (by show ad rs b a = true; rw [ad_symm g]; exact hab)
          rw [han.2] at this; cases this
theorem parts_pts {rs : List Int} (g : VG rs) {S : Nat} (hS : S < 2 ^ rs.length) : Pts rs S (partsOf rs S) := partsF_pts g hS 7 S (cnt_le S) (shut_self rs S)
theorem Pts.less {rs : List Int} {S : Nat} {ps : List Nat} (h : Pts rs S ps) (h7 : S < 128) (h1 : ps.length ≠ 1) {Q : Nat} (hQ : Q ∈ ps) : cnt Q < cnt S ∧ cnt Q ≠ 0 := by
  have hsub := (h.each Q hQ).1
  have hex : ∀ A ∈ ps, ∃ v, A.testBit v = true := fun A hA => ⟨_, (low_facts ((h.each A hA).1.lt h7) (h.each A hA).2).1⟩
  refine ⟨cnt_lt h7 hsub fun e => ?_, cnt_zero (hsub.lt h7) (h.each Q hQ).2⟩
  match ps, h, h1, hQ, hex with
  | [A], _, h1, _, _ => exact h1 rfl
  | A :: B :: rest, h, _, hQ, hex =>
    have hp := List.pairwise_cons.1 h.sep
    rcases List.mem_cons.1 hQ with rfl | hQ
    · obtain ⟨v, hv⟩ := hex B (by simp)
      have h2 : Q.testBit v = true := by rw [e]; exact (h.each B (by simp)).1 v hv
      exact (hp.1 B (by simp) v v h2 hv).1 rfl
    · obtain ⟨v, hv⟩ := hex A (by simp)
      have h2 : Q.testBit v = true := by rw [e]; exact (h.each A (by simp)).1 v hv
      exact (hp.1 Q hQ v v hv h2).1 rfl

end Go.Proofs.YtjikmjhpmkakoaaGreatDoor

namespace Go.Proofs.YtjikmjhpmkakoaaGreatDoor

/-- v and w are twins within S. -/
def tw (rs : List Int) (S v w : Nat) : Prop := S.testBit v = true ∧ S.testBit w = true ∧ v ≠ w ∧ ∀ c, S.testBit c = true → c ≠ v → c ≠ w → ad rs v c = ad rs w c
theorem two_of {S : Nat} (h7 : S < 128) (h2 : 2 ≤ cnt S) : ∃ a b, S.testBit a = true ∧ S.testBit b = true ∧ a ≠ b := by
  refine Classical.byContradiction fun hc => ?_
  rcases cnt1_mk h7 fun a b ha hb => Classical.byContradiction fun hne => hc ⟨a, b, ha, hb, hne⟩ with h | h
  · subst h
    have : cnt 0 = 0 := by decide
    omega
  · omega
theorem Pts.apart {rs : List Int} {S : Nat} {ps : List Nat} (h : Pts rs S ps) {Q : Nat} (hQ : Q ∈ ps) {a b : Nat} (ha : Q.testBit a = true) (hb : S.testBit b = true) (hn : Q.testBit b = false) : ad rs a b = false :=
  bfalse fun e => by
    have := h.own Q hQ a b ha hb e
    rw [hn] at this; cases this
/-- Twins of a part, or of two parts of one vertex each. -/
theorem twins_parts {f h : List Int} (c : Co f h) {rs : List Int} (hrs : ∀ a b, ad rs a b = false → a < f.length → b < f.length → a ≠ b → ∃ t, ad f a b = t ∧ ∀ x y, x < f.length → y < f.length → x ≠ y → ad rs x y = false → ad f x y = t) {S : Nat} {ps : List Nat} (hS : S < 2 ^ f.length) (hP : Pts rs S ps) (h1 : ps.length ≠ 1) (h2 : 2 ≤ cnt S)
    (ih : ∀ Q ∈ ps, 2 ≤ cnt Q → ∃ v w, tw f Q v w) : ∃ v w, tw f S v w := by
  have h7 : S < 128 := by have := c.gf.pow.1; omega
  have hlt : ∀ v, S.testBit v = true → v < f.length := fun v hv => testBit_lt hS hv
  -- all pairs of different parts are alike
  have hpair : ∀ {Q Q' a b x y : Nat}, Q ∈ ps → Q' ∈ ps → Q.testBit a = true → S.testBit b = true → Q.testBit b = false → Q'.testBit x = true → S.testBit y = true → Q'.testBit y = false → ad f a b = ad f x y := fun hQ hQ' ha hb hn hx hy hm => by
    have haS := (hP.each _ hQ).1 _ ha
    have hxS := (hP.each _ hQ').1 _ hx
    obtain ⟨t, e1, e2⟩ := hrs _ _ (hP.apart hQ ha hb hn) (hlt _ haS) (hlt _ hb) (fun e => by subst e; rw [ha] at hn; cases hn)
    rw [e1, e2 _ _ (hlt _ hxS) (hlt _ hy) (fun e => by subst e; rw [hx] at hm; cases hm) (hP.apart hQ' hx hy hm)]
  by_cases hq : ∃ Q ∈ ps, 2 ≤ cnt Q
  · obtain ⟨Q, hQ, hc⟩ := hq
    obtain ⟨v, w, hv, hw, hne, ht⟩ := ih Q hQ hc
    have hsub := (hP.each Q hQ).1
    refine ⟨v, w, hsub v hv, hsub w hw, hne, fun x hx h3 h4 => ?_⟩
    cases hxQ : Q.testBit x
    · exact hpair hQ hQ hv hx hxQ hw hx hxQ
    · exact ht x hxQ h3 h4
  · have hone : ∀ Q ∈ ps, ∀ a b, Q.testBit a = true → Q.testBit b = true → a = b := fun Q hQ a b ha hb => by
      have hQ7 := (hP.each Q hQ).1.lt h7
      have h3 : cnt Q = 1 := by
        have := cnt_zero hQ7 (hP.each Q hQ).2
        have : ¬2 ≤ cnt Q := fun h => hq ⟨Q, hQ, h⟩
        omega
      exact cnt1_of hQ7 h3 ha hb
    obtain ⟨v, w, hv, hw, hne⟩ := two_of h7 h2
    obtain ⟨Q, hQ, hvQ⟩ := hP.all v hv
    obtain ⟨Q', hQ', hwQ⟩ := hP.all w hw
    have k1 : ∀ x, x ≠ v → Q.testBit x = false := fun x hx => bfalse fun e => hx (hone Q hQ x v e hvQ)
    have k2 : ∀ x, x ≠ w → Q'.testBit x = false := fun x hx => bfalse fun e => hx (hone Q' hQ' x w e hwQ)
    exact ⟨v, w, hv, hw, hne, fun x hx h3 h4 => hpair hQ hQ' hvQ hx (k1 x h3) hwQ hx (k2 x h4)⟩
theorem twins_ex {f h : List Int} (c : Co f h) (hp : noP4 f) : ∀ n S, cnt S ≤ n → S < 2 ^ f.length → 2 ≤ cnt S → ∃ v w, tw f S v w
  | 0, S, h1, _, h2 => by omega
  | n + 1, S, h1, hS, h2 => by
    have h7 : S < 128 := by have := c.gf.pow.1; omega
    rcases cog_parts c hp hS h2 with h3 | h3
    · have hP := parts_pts c.gf hS
      refine twins_parts c (rs := f) (fun a b hab _ _ _ => ⟨false, hab, fun x y _ _ _ h => h⟩) hS hP h3 h2 fun Q hQ hc => ?_
      have := (hP.less h7 h3 hQ).1
      exact twins_ex c hp n Q (by omega) ((hP.each Q hQ).1.lt hS) hc
    · have hP := parts_pts c.gh (S := S) (by rw [← c.len]; exact hS)
      refine twins_parts c (rs := h) (fun a b hab ha hb hne => ⟨true, ?_, fun x y hx hy hxy e => ?_⟩) hS hP h3 h2 fun Q hQ hc => ?_
      · rw [c.opp a b ha hb hne] at hab; simpa using hab
      · rw [c.opp x y hx hy hxy] at e; simpa using e
      · have := (hP.less h7 h3 hQ).1
        exact twins_ex c hp n Q (by omega) ((hP.each Q hQ).1.lt hS) hc

/-! ### A path of four among the vertices of a set -/
def P4in (rs : List Int) (S : Nat) : Prop := ∃ a b c d, (S.testBit a = true ∧ S.testBit b = true ∧ S.testBit c = true ∧ S.testBit d = true) ∧ ad rs a b = true ∧ ad rs b c = true ∧ ad rs c d = true ∧ ad rs a c = false ∧ ad rs b d = false ∧ ad rs a d = false
theorem noP4_iff {rs : List Int} (g : VG rs) : noP4 rs ↔ ¬P4in rs (2 ^ rs.length - 1) := by
  constructor
  · rintro h ⟨a, b, c, d, -, h1, h2, h3, h4, h5, h6⟩
    exact h a b c d h1 h2 h3 h4 h5 h6
  · intro h a b c d h1 h2 h3 h4 h5 h6
    exact h ⟨a, b, c, d, ⟨all_bit.2 (ad_lt g h1).1, all_bit.2 (ad_lt g h1).2, all_bit.2 (ad_lt g h3).1, all_bit.2 (ad_lt g h3).2⟩, h1, h2, h3, h4, h5, h6⟩
theorem twin_back {rs : List Int} (g : VG rs) {S S' v w : Nat} (hS' : ∀ i, S'.testBit i = true ↔ S.testBit i = true ∧ i ≠ v) (ht : tw rs S v w) (h : P4in rs S) : P4in rs S' := by
  obtain ⟨hv, hw, hne, ht⟩ := ht
  obtain ⟨a, b, c, d, ⟨ha, hb, hc, hd⟩, ab, bc, cd, ac, bd, ad'⟩ := h
  have sy := ad_symm g
  have clash : ∀ {x y : Nat}, ad rs x y = true → ad rs x y = false → False := fun h1 h2 => by rw [h1] at h2; cases h2
  have nab : a ≠ b := fun e => by subst e; rw [ad_irr g] at ab; cases ab
  have nbc : b ≠ c := fun e => by subst e; rw [ad_irr g] at bc; cases bc
  have ncd : c ≠ d := fun e => by subst e; rw [ad_irr g] at cd; cases cd
  have nac : a ≠ c := fun e => by subst e; exact clash cd ad'
  have nbd : b ≠ d := fun e => by subst e; exact clash ab ad'
  have nad : a ≠ d := fun e => by subst e; exact clash ab (by rw [sy]; exact bd)
  have hw' : S'.testBit w = true := (hS' w).2 ⟨hw, fun e => hne e.symm⟩
  by_cases ea : a = v
  · subst ea
    have n1 : w ≠ b := fun e => by subst e; exact clash bc (by rw [← ht c hc nac.symm nbc.symm]; exact ac)
    have n2 : w ≠ c := fun e => by subst e; exact clash cd (by rw [← ht d hd nad.symm ncd.symm]; exact ad')
    have n3 : w ≠ d := fun e => by subst e; exact clash ab (by rw [ht b hb nab.symm nbd, sy]; exact bd)
    refine ⟨w, b, c, d, ⟨hw', (hS' b).2 ⟨hb, nab.symm⟩, (hS' c).2 ⟨hc, nac.symm⟩, (hS' d).2 ⟨hd, nad.symm⟩⟩, ?_, bc, cd, ?_, bd, ?_⟩
    · rw [← ht b hb nab.symm n1.symm]; exact ab
    · rw [← ht c hc nac.symm n2.symm]; exact ac
    · rw [← ht d hd nad.symm n3.symm]; exact ad'
  · by_cases eb : b = v
    · subst eb
      have n1 : w ≠ a := fun e => by subst e; exact clash bc (by rw [ht c hc nbc.symm nac.symm]; exact ac)
      have n2 : w ≠ c := fun e => by subst e; exact clash cd (by rw [← ht d hd nbd.symm ncd.symm]; exact bd)
      have n3 : w ≠ d := fun e => by subst e; exact clash (x := b) (y := a) (by rw [sy]; exact ab) (by rw [ht a ha nab nad, sy]; exact ad')
      refine ⟨a, w, c, d, ⟨(hS' a).2 ⟨ha, ea⟩, hw', (hS' c).2 ⟨hc, nbc.symm⟩, (hS' d).2 ⟨hd, nbd.symm⟩⟩, ?_, ?_, cd, ac, ?_, ad'⟩
      · rw [sy, ← ht a ha nab n1.symm, sy]; exact ab
      · rw [← ht c hc nbc.symm n2.symm]; exact bc
      · rw [← ht d hd nbd.symm n3.symm]; exact bd
    · by_cases ec : c = v
      · subst ec
        have n1 : w ≠ d := fun e => by subst e; exact clash (x := c) (y := b) (by rw [sy]; exact bc) (by rw [ht b hb nbc nbd, sy]; exact bd)
        have n2 : w ≠ b := fun e => by subst e; exact clash (x := a) (y := w) ab (by rw [sy, ← ht a ha nac nab, sy]; exact ac)
        have n3 : w ≠ a := fun e => by subst e; exact clash cd (by rw [ht d hd ncd.symm nad.symm]; exact ad')
        refine ⟨a, b, w, d, ⟨(hS' a).2 ⟨ha, ea⟩, (hS' b).2 ⟨hb, eb⟩, hw', (hS' d).2 ⟨hd, ncd.symm⟩⟩, ab, ?_, ?_, ?_, bd, ad'⟩
        · rw [sy, ← ht b hb nbc n2.symm, sy]; exact bc
        · rw [← ht d hd ncd.symm n1.symm]; exact cd
        · rw [sy, ← ht a ha nac n3.symm, sy]; exact ac
      · by_cases ed : d = v
        · subst ed
          have n1 : w ≠ c := fun e => by subst e; exact clash (x := b) (y := w) bc (by rw [sy, ← ht b hb nbd nbc, sy]; exact bd)
          have n2 : w ≠ b := fun e => by subst e; exact clash ab (by rw [sy, ← ht a ha nad nab, sy]; exact ad')
          have n3 : w ≠ a := fun e => by subst e; exact clash (x := d) (y := c) (by rw [sy]; exact cd) (by rw [ht c hc ncd nac.symm]; exact ac)
          refine ⟨a, b, c, w, ⟨(hS' a).2 ⟨ha, ea⟩, (hS' b).2 ⟨hb, eb⟩, (hS' c).2 ⟨hc, ec⟩, hw'⟩, ab, bc, ?_, ac, ?_, ?_⟩
          · rw [sy, ← ht c hc ncd n1.symm, sy]; exact cd
          · rw [sy, ← ht b hb nbd n2.symm, sy]; exact bd
          · rw [sy, ← ht a ha nad n3.symm, sy]; exact ad'
        · exact ⟨a, b, c, d, ⟨(hS' a).2 ⟨ha, ea⟩, (hS' b).2 ⟨hb, eb⟩, (hS' c).2 ⟨hc, ec⟩, (hS' d).2 ⟨hd, ed⟩⟩, ab, bc, cd, ac, bd, ad'⟩

/-! ### Taking twins away -/
/-- w is a twin of v within S: the reference's test. -/
def twB (rs : List Int) (S v w : Nat) : Bool := decide (v ≠ w) && (S.testBit v && S.testBit w && decide (gn rs v &&& (S - (2 ^ v ||| 2 ^ w)) = gn rs w &&& (S - (2 ^ v ||| 2 ^ w))))
theorem twB_iff {rs : List Int} (g : VG rs) {S v w : Nat} (hS : S < 2 ^ rs.length) : twB rs S v w = true ↔ tw rs S v w := by
  unfold twB
  simp only [Bool.and_eq_true, decide_eq_true_eq]
  constructor
  · rintro ⟨h1, ⟨h2, h3⟩, h4⟩
    refine ⟨h2, h3, h1, (rows_but g hS h2 h3).1 ?_⟩
    rw [← h4]
    have hp := g.pow.1
    rw [Nat.and_assoc, ← nDiff_minus (by omega) (pair_sub h2 h3)]
    congr 1
    apply Nat.eq_of_testBit_eq
    intro i
    rw [Nat.testBit_and, Bool.eq_iff_iff, Bool.and_eq_true, nDiff_bit]
    exact ⟨fun h => h.2, fun h => ⟨h.1, h⟩⟩
  · rintro ⟨h2, h3, h1, h4⟩
    refine ⟨h1, ⟨h2, h3⟩, ?_⟩
    have h5 := (rows_but g hS h2 h3).2 h4
    rw [← h5]
    have hp := g.pow.1
    rw [Nat.and_assoc, ← nDiff_minus (by omega) (pair_sub h2 h3)]
    congr 1
    apply Nat.eq_of_testBit_eq
    intro i
    rw [Nat.testBit_and, Bool.eq_iff_iff, Bool.and_eq_true, nDiff_bit]
    exact ⟨fun h => ⟨h.1, h⟩, fun h => h.2⟩
def hasTw (rs : List Int) (S v : Nat) : Bool := decide (∃ w, w < rs.length ∧ twB rs S v w = true)
theorem hasTw_iff {rs : List Int} (g : VG rs) {S v : Nat} (hS : S < 2 ^ rs.length) : hasTw rs S v = true ↔ ∃ w, tw rs S v w := by
  unfold hasTw
  rw [decide_eq_true_eq]
  constructor
  · rintro ⟨w, -, h⟩; exact ⟨w, (twB_iff g hS).1 h⟩
  · rintro ⟨w, h⟩; exact ⟨w, testBit_lt hS h.2.1, (twB_iff g hS).2 h⟩
def twNext (rs : List Int) (S : Nat) : Option Nat := firstB (hasTw rs S) rs.length
def twRun (rs : List Int) : Nat → Nat → List Nat → Option (List Nat)
  | 0, S, acc => some (acc ++ els S)
  | f + 1, S, acc => if cnt S ≤ 1 then some (acc ++ els S) else match twNext rs S with
    | none => none
    | some v => twRun rs f (S - 2 ^ v) (acc ++ [v])
theorem twRun_end {rs : List Int} {f S : Nat} {acc : List Nat} (h : cnt S ≤ 1) : twRun rs f S acc = some (acc ++ els S) := by
  cases f with
  | zero => rfl
  | succ f => show (if _ then _ else _) = _; rw [if_pos h]
theorem twRun_none {rs : List Int} {f S : Nat} {acc : List Nat} (h : ¬cnt S ≤ 1) (hn : twNext rs S = none) : twRun rs (f + 1) S acc = none := by
  show (if _ then _ else _) = _; rw [if_neg h, hn]
theorem twRun_some {rs : List Int} {f S v : Nat} {acc : List Nat} (h : ¬cnt S ≤ 1) (hn : twNext rs S = some v) : twRun rs (f + 1) S acc = twRun rs f (S - 2 ^ v) (acc ++ [v]) := by
  show (if _ then _ else _) = _; rw [if_neg h, hn]
def twV (n : Int) (rs : List Int) : Option (List Nat) := if isGraphB n rs = true then twRun rs rs.length (2 ^ rs.length - 1) [] else none
theorem twV_no {n : Int} {rs : List Int} (h : isGraphB n rs = false) : twV n rs = none := by unfold twV; rw [if_neg (by rw [h]; decide)]
theorem twV_of {n : Int} {rs : List Int} (h : isGraphB n rs = true) : twV n rs = twRun rs rs.length (2 ^ rs.length - 1) [] := by unfold twV; rw [if_pos h]
theorem twRun_p4 {rs : List Int} (g : VG rs) : ∀ (f S : Nat) (acc l : List Nat), S < 2 ^ rs.length → cnt S ≤ f → twRun rs f S acc = some l → ¬P4in rs S
  | f, S, acc, l, hS, hc, h => by
    have h7 : S < 128 := by have := g.pow.1; omega
    by_cases h1 : cnt S ≤ 1
    · rintro ⟨a, b, c, d, ⟨ha, hb, -, -⟩, ab, -⟩
      have : a = b := by
        refine cnt1_of h7 ?_ ha hb
        have := cnt_zero h7 (show S ≠ 0 from fun e => by subst e; simp at ha)
        omega
      subst this
      rw [ad_irr g] at ab; cases ab
    · obtain ⟨f, rfl⟩ : ∃ f', f = f' + 1 := ⟨f - 1, by omega⟩
      cases hn : twNext rs S with
      | none => rw [twRun_none h1 hn] at h; cases h
      | some v =>
        rw [twRun_some h1 hn] at h
        obtain ⟨w, ht⟩ := (hasTw_iff g hS).1 (firstB_some hn).2
        obtain ⟨m1, m2⟩ := minus_facts g.le hS ht.1
        have ih := twRun_p4 g f _ _ _ m1 (by omega) h
        exact fun hp => ih (twin_back g (fun i => minus_bit2 h7 ht.1) ht hp)
termination_by f => f
theorem twRun_no {rs : List Int} (g : VG rs) : ∀ (f S : Nat) (acc : List Nat), S < 2 ^ rs.length → twRun rs f S acc = none → ¬noP4 rs
  | 0, S, acc, _, h => by cases h
  | f + 1, S, acc, hS, h => by
    by_cases h1 : cnt S ≤ 1
    · rw [twRun_end h1] at h; cases h
    · cases hn : twNext rs S with
      | none =>
        intro hp
        obtain ⟨v, w, ht⟩ := twins_ex (Co.compl g) hp _ S (Nat.le_refl _) hS (by omega)
        have := firstB_no hn v (testBit_lt hS ht.1)
        rw [(hasTw_iff g hS).2 ⟨w, ht⟩] at this; cases this
      | some v =>
        rw [twRun_some h1 hn] at h
        obtain ⟨w, ht⟩ := (hasTw_iff g hS).1 (firstB_some hn).2
        exact twRun_no g f _ _ (minus_facts g.le hS ht.1).1 h
theorem twins_iff {rs : List Int} (hv : isGraphB rs.length rs = true) : (twV rs.length rs).isSome = true ↔ noP4 rs := by
  have g := (VG.of hv).2
  rw [twV_of hv]
  cases h : twRun rs rs.length (2 ^ rs.length - 1) [] with
  | none => exact ⟨fun h2 => (by cases h2), fun h2 => absurd h2 (twRun_no g _ _ _ (all_lt _) h)⟩
  | some l => exact ⟨fun _ => (noP4_iff g).2 (twRun_p4 g _ _ _ _ (all_lt _) (cnt_leN (all_lt _) g.le) h), fun _ => rfl⟩

end Go.Proofs.YtjikmjhpmkakoaaGreatDoor
