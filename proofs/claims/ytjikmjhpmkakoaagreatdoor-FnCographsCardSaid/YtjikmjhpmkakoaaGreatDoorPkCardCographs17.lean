/-
  Graphs without a path of four vertices: an arc never forces its opposite, and without what an arc forces there is no such path again. No conditions.
  Plain laws of prunes: how a vertex can be taken away, and the order in which all are. No conditions.
  Lists of prunes that a call itself makes and appends to.
  flip of the program, where the edge is missing: it is laid. The graph is right.
-/
import Derived.Test.YtjikmjhpmkakoaaGreatDoorPkCardCographs16
import Derived.Test.YtjikmjhpmkakoaaGreatDoorPkCardCographs05
import Derived.Test.YtjikmjhpmkakoaaGreatDoorPkCardCographs13
import Derived.Deep.RegionLaw
import Derived.Test.YtjikmjhpmkakoaaGreatDoorPkCardCographs07
namespace Go.Proofs.YtjikmjhpmkakoaaGreatDoor

/-- No path of four vertices. -/
def noP4 (rs : List Int) : Prop := ∀ a b c d, ad rs a b = true → ad rs b c = true → ad rs c d = true → ad rs a c = false → ad rs b d = false → ad rs a d = false → False
/-- Reached from a by steps between vertices that are no neighbours, all neighbours of z. -/
inductive CoR (rs : List Int) (z a : Nat) : Nat → Prop
  | base (h : ad rs a z = true) : CoR rs z a a
  | step {x y : Nat} (h : CoR rs z a x) (hy : ad rs y z = true) (hn : ad rs x y = false) : CoR rs z a y
theorem CoR.near {rs : List Int} {z a x : Nat} (h : CoR rs z a x) : ad rs x z = true := by
  cases h with
  | base h => exact h
  | step _ hy _ => exact hy
theorem bfalse {b : Bool} (h : ¬b = true) : b = false := by cases b <;> simp_all
/-- The two sides are joined. -/
theorem co_join {rs : List Int} (g : VG rs) (hp : noP4 rs) {a b x y : Nat} (_hab : ad rs a b = true) (hx : CoR rs b a x) (hy : CoR rs a b y) : ad rs x y = true := by
  induction hx generalizing y with
  | base h => rw [ad_symm g]; exact hy.near
  | @step x x' hx hx' hn ih =>
    induction hy with
    | base h => exact hx'
    | @step y y' hy hy' hn2 ih2 =>
      refine Classical.byContradiction fun hc => ?_
      exact hp x' y x y' ih2 (by rw [ad_symm g]; exact ih hy) (ih (.step hy hy' hn2)) (by rw [ad_symm g]; exact hn) hn2 (bfalse hc)
theorem co_far {rs : List Int} (g : VG rs) (hp : noP4 rs) {a b x y z : Nat} (hab : ad rs a b = true) (hx : CoR rs b a x) (hy : CoR rs a b y) (hxz : ad rs x z = true) (hyz : ad rs y z = false) : ad rs a z = true := by
  induction hx with
  | base h => exact hxz
  | @step x x' hx hx' hn ih =>
    cases hq : ad rs x z
    · exfalso
      have h1 := co_join g hp hab (.step hx hx' hn) hy
      have h2 := co_join g hp hab hx hy
      exact hp z x' y x (by rw [ad_symm g]; exact hxz) h1 (by rw [ad_symm g]; exact h2) (by rw [ad_symm g]; exact hyz) (by rw [ad_symm g]; exact hn) (by rw [ad_symm g]; exact hq)
    · exact ih hq
theorem co_base {rs : List Int} (g : VG rs) {a b : Nat} (hab : ad rs a b = true) : CoR rs b a a ∧ CoR rs a b b := ⟨.base hab, .base (by rw [ad_symm g]; exact hab)⟩
/-- What an arc forces leads from one side to the other. -/
theorem fc_sides {rs : List Int} (g : VG rs) (hp : noP4 rs) {a b : Nat} (hab : ad rs a b = true) {p : Nat × Nat} (h : Fc rs (a, b) p) : CoR rs b a p.1 ∧ CoR rs a b p.2 := by
  have hba : ad rs b a = true := by rw [ad_symm g]; exact hab
  induction h with
  | base => exact co_base g hab
  | @step p q h hq ih =>
    obtain ⟨hx, hy⟩ := ih
    obtain ⟨-, -, h0, ⟨h1, -, h3⟩ | ⟨h1, -, h3⟩⟩ := nx_mem.1 hq
    · rw [h1] at h0 ⊢
      have hyz : ad rs p.2 q.2 = false := by rw [ad_symm g]; exact h3
      exact ⟨hx, .step hy (by rw [ad_symm g]; exact co_far g hp hab hx hy h0 hyz) hyz⟩
    · rw [h1] at h0 ⊢
      have hxz : ad rs p.1 q.1 = false := by rw [ad_symm g]; exact h3
      have h4 : ad rs b q.1 = true := co_far g hp hba hy hx (by rw [ad_symm g]; exact h0) hxz
      exact ⟨.step hx (by rw [ad_symm g]; exact h4) hxz, hy⟩
theorem fc_no_turn {rs : List Int} (g : VG rs) (hp : noP4 rs) {a b : Nat} (hab : ad rs a b = true) : ¬Fc rs (a, b) (b, a) := fun h => by
  have := (fc_sides g hp hab h).1.near
  have h2 : ad rs b b = true := this
  rw [ad_irr g] at h2; cases h2
theorem fc_all {rs : List Int} (g : VG rs) (hp : noP4 rs) {a b x y : Nat} (hab : ad rs a b = true) (hx : CoR rs b a x) (hy : CoR rs a b y) : Fc rs (a, b) (x, y) := by
  have h1 : Fc rs (a, b) (x, b) := by
    induction hx with
    | base => exact .base
    | @step x x' hx hx' hn ih =>
      by_cases e : x' = x
      · rw [e]; exact ih
      · exact .step ih (nx_mk g hx' (.inr ⟨rfl, e, by show ad rs x' x = false; rw [ad_symm g]; exact hn⟩))
  induction hy with
  | base => exact h1
  | @step y y' hy hy' hn ih =>
    by_cases e : y' = y
    · rw [e]; exact ih
    · exact .step ih (nx_mk g (co_join g hp hab hx (.step hy hy' hn)) (.inl ⟨rfl, e, by show ad rs y' y = false; rw [ad_symm g]; exact hn⟩))
theorem co_apart {rs : List Int} (g : VG rs) (hp : noP4 rs) {a b x : Nat} (hab : ad rs a b = true) (hx : CoR rs b a x) : ¬CoR rs a b x := fun hy => by
  have := co_join g hp hab hx hy
  rw [ad_irr g] at this; cases this
/-- A vertex of neither side is joined to all of them or to none. -/
theorem co_same {rs : List Int} (g : VG rs) (hp : noP4 rs) {a b z u : Nat} (hab : ad rs a b = true) (h1 : ¬CoR rs b a z) (h2 : ¬CoR rs a b z) (hu : CoR rs b a u ∨ CoR rs a b u) : ad rs z u = ad rs z a := by
  have hba : ad rs b a = true := by rw [ad_symm g]; exact hab
  obtain ⟨ca, cb⟩ := co_base g hab
  have k1 : ad rs z b = true → ∀ x, CoR rs b a x → ad rs z x = true := fun hz x hx => by
    refine Classical.byContradiction fun hc => h1 (.step hx hz ?_)
    rw [ad_symm g]; exact bfalse hc
  have k2 : ad rs z a = true → ∀ y, CoR rs a b y → ad rs z y = true := fun hz y hy => by
    refine Classical.byContradiction fun hc => h2 (.step hy hz ?_)
    rw [ad_symm g]; exact bfalse hc
  cases hz : ad rs z a
  · have hzb : ad rs z b = false := bfalse fun h => by rw [k1 h a ca] at hz; cases hz
    rcases hu with hu | hu
    · refine bfalse fun h => ?_
      have := co_far g hp hab hu cb (by rw [ad_symm g]; exact h) (by rw [ad_symm g]; exact hzb)
      rw [ad_symm g, hz] at this; cases this
    · refine bfalse fun h => ?_
      have := co_far g hp hba hu ca (by rw [ad_symm g]; exact h) (by rw [ad_symm g]; exact hz)
      rw [ad_symm g, hzb] at this; cases this
  · have hzb := k2 hz b cb
    rcases hu with hu | hu
    · exact k1 hzb u hu
    · exact k2 hz u hu
/-- Without what an arc forces there is no path of four again. -/
theorem tro_noP4 {rs rt : List Int} (g : VG rs) (gt : VG rt) (hp : noP4 rs) {a b : Nat} (hab : ad rs a b = true) {es : List (Nat × Nat)} (hes : ∀ p, p ∈ es ↔ Fc rs (a, b) p)
    (had : ∀ u v, ad rt u v = true ↔ ad rs u v = true ∧ (u, v) ∉ es ∧ (v, u) ∉ es) : noP4 rt := by
  have hS : ∀ u v, (u, v) ∈ es ↔ CoR rs b a u ∧ CoR rs a b v := fun u v => by
    rw [hes]
    exact ⟨fun h => fc_sides g hp hab h, fun h => fc_all g hp hab h.1 h.2⟩
  have hA := fun x => co_apart g hp hab (x := x)
  have hM := fun z u h1 h2 hu => co_same g hp hab (z := z) (u := u) h1 h2 hu
  generalize hAe : CoR rs b a = A at *
  generalize hBe : CoR rs a b = B at *
  have hT : ∀ u v, ad rt u v = true ↔ ad rs u v = true ∧ ¬(A u ∧ B v) ∧ ¬(A v ∧ B u) := fun u v => by rw [had, hS, hS]
  have hM2 : ∀ z u v, ¬A z → ¬B z → (A u ∨ B u) → (A v ∨ B v) → ad rt z u = ad rt z v := fun z u v h1 h2 hu hv => by
    have := (hM z u h1 h2 hu).trans (hM z v h1 h2 hv).symm
    rw [Bool.eq_iff_iff, hT, hT, this]
    exact ⟨fun h => ⟨h.1, fun e => h1 e.1, fun e => h2 e.2⟩, fun h => ⟨h.1, fun e => h1 e.1, fun e => h2 e.2⟩⟩
  have hF2 : ∀ u v, ¬((A u ∨ B u) ∧ (A v ∨ B v)) → ad rt u v = ad rs u v := fun u v h => by
    rw [Bool.eq_iff_iff, hT]
    exact ⟨fun h => h.1, fun h2 => ⟨h2, fun e => h ⟨.inl e.1, .inr e.2⟩, fun e => h ⟨.inr e.2, .inl e.1⟩⟩⟩
  have hFA : ∀ u v, A u → A v → ad rt u v = ad rs u v := fun u v h1 h2 => by
    rw [Bool.eq_iff_iff, hT]
    exact ⟨fun h => h.1, fun h3 => ⟨h3, fun e => hA _ h2 e.2, fun e => hA _ h1 e.2⟩⟩
  have hFB : ∀ u v, B u → B v → ad rt u v = ad rs u v := fun u v h1 h2 => by
    rw [Bool.eq_iff_iff, hT]
    exact ⟨fun h => h.1, fun h3 => ⟨h3, fun e => hA _ e.1 h1, fun e => hA _ e.1 h2⟩⟩
  have hAB : ∀ u v, A u → B v → ad rt u v = false := fun u v h1 h2 => bfalse fun h => ((hT u v).1 h).2.1 ⟨h1, h2⟩
  have hBA : ∀ u v, B u → A v → ad rt u v = false := fun u v h1 h2 => bfalse fun h => ((hT u v).1 h).2.2 ⟨h2, h1⟩
  intro p q r s pq qr rs' pr qs ps
  have hclash : ∀ {x y : Nat}, ad rt x y = true → ad rt x y = false → False := fun h1 h2 => by rw [h1] at h2; cases h2
  have sy := ad_symm gt
  -- the path lies in the old graph
  have hold : ad rt p q = ad rs p q → ad rt q r = ad rs q r → ad rt r s = ad rs r s → ad rt p r = ad rs p r → ad rt q s = ad rs q s → ad rt p s = ad rs p s → False := fun e1 e2 e3 e4 e5 e6 =>
    hp p q r s (by rw [← e1]; exact pq) (by rw [← e2]; exact qr) (by rw [← e3]; exact rs') (by rw [← e4]; exact pr) (by rw [← e5]; exact qs) (by rw [← e6]; exact ps)
  have nm : ∀ z, ¬(A z ∨ B z) → ¬A z ∧ ¬B z := fun z h => ⟨fun e => h (.inl e), fun e => h (.inr e)⟩
  by_cases mp : A p ∨ B p
  · by_cases mq : A q ∨ B q
    · by_cases mr : A r ∨ B r
      · by_cases ms : A s ∨ B s
        · rcases mp with ap | bp
          · rcases mq with aq | bq
            · rcases mr with ar | br
              · rcases ms with as2 | bs
                · exact hold (hFA _ _ ap aq) (hFA _ _ aq ar) (hFA _ _ ar as2) (hFA _ _ ap ar) (hFA _ _ aq as2) (hFA _ _ ap as2)
                · exact hclash rs' (hAB _ _ ar bs)
              · exact hclash qr (hAB _ _ aq br)
            · exact hclash pq (hAB _ _ ap bq)
          · rcases mq with aq | bq
            · exact hclash pq (hBA _ _ bp aq)
            · rcases mr with ar | br
              · exact hclash qr (hBA _ _ bq ar)
              · rcases ms with as2 | bs
                · exact hclash rs' (hBA _ _ br as2)
                · exact hold (hFB _ _ bp bq) (hFB _ _ bq br) (hFB _ _ br bs) (hFB _ _ bp br) (hFB _ _ bq bs) (hFB _ _ bp bs)
        · have := hM2 s r p (nm _ ms).1 (nm _ ms).2 mr mp
          rw [sy s r, sy s p] at this
          rw [rs', ps] at this; cases this
      · have := hM2 r q p (nm _ mr).1 (nm _ mr).2 mq mp
        rw [sy r q, sy r p] at this
        rw [qr, pr] at this; cases this
    · by_cases ms : A s ∨ B s
      · have := hM2 q p s (nm _ mq).1 (nm _ mq).2 mp ms
        rw [sy q p] at this
        rw [pq, qs] at this; cases this
      · by_cases mr : A r ∨ B r
        · have := hM2 s r p (nm _ ms).1 (nm _ ms).2 mr mp
          rw [sy s r, sy s p] at this
          rw [rs', ps] at this; cases this
        · exact hold (hF2 _ _ fun h => mq h.2) (hF2 _ _ fun h => mq h.1) (hF2 _ _ fun h => mr h.1) (hF2 _ _ fun h => mr h.2) (hF2 _ _ fun h => mq h.1) (hF2 _ _ fun h => ms h.2)
  · by_cases mq : A q ∨ B q
    · by_cases mr : A r ∨ B r
      · have := hM2 p q r (nm _ mp).1 (nm _ mp).2 mq mr
        rw [pq, pr] at this; cases this
      · by_cases ms : A s ∨ B s
        · have := hM2 p q s (nm _ mp).1 (nm _ mp).2 mq ms
          rw [pq, ps] at this; cases this
        · exact hold (hF2 _ _ fun h => mp h.1) (hF2 _ _ fun h => mr h.2) (hF2 _ _ fun h => mr h.1) (hF2 _ _ fun h => mp h.1) (hF2 _ _ fun h => ms h.2) (hF2 _ _ fun h => mp h.1)
    · by_cases mr : A r ∨ B r
      · by_cases ms : A s ∨ B s
        · have := hM2 q r s (nm _ mq).1 (nm _ mq).2 mr ms
          rw [qr, qs] at this; cases this
        · exact hold (hF2 _ _ fun h => mp h.1) (hF2 _ _ fun h => mq h.1) (hF2 _ _ fun h => ms h.2) (hF2 _ _ fun h => mp h.1) (hF2 _ _ fun h => mq h.1) (hF2 _ _ fun h => mp h.1)
      · exact hold (hF2 _ _ fun h => mp h.1) (hF2 _ _ fun h => mq h.1) (hF2 _ _ fun h => mr h.1) (hF2 _ _ fun h => mp h.1) (hF2 _ _ fun h => mq h.1) (hF2 _ _ fun h => mp h.1)
/-- The complement has no path of four either. -/
theorem compl_ad2 {rs : List Int} {a b : Nat} : ad (compl rs) a b = true ↔ a < rs.length ∧ b < rs.length ∧ a ≠ b ∧ ad rs a b = false := by
  by_cases ha : a < rs.length
  · unfold ad gn
    rw [compl_at ha, Int.toNat_natCast, complRow_bit]
    exact ⟨fun h => ⟨ha, h.1, h.2.2, h.2.1⟩, fun h => ⟨h.2.1, h.2.2.2, h.2.2.1⟩⟩
  · constructor
    · intro h
      unfold ad at h
      rw [gn_big (by rw [compl_len]; omega)] at h
      simp at h
    · intro h; exact absurd h.1 ha
theorem compl_noP4 {rs : List Int} (g : VG rs) (hp : noP4 rs) : noP4 (compl rs) := by
  intro a b c d ab bc cd ac bd ad'
  obtain ⟨ha, hb, h1, ab⟩ := compl_ad2.1 ab
  obtain ⟨-, hc, h2, bc⟩ := compl_ad2.1 bc
  obtain ⟨-, hd, h3, cd⟩ := compl_ad2.1 cd
  have no : ∀ {x y : Nat}, x < rs.length → y < rs.length → x ≠ y → ad (compl rs) x y = false → ad rs x y = true := fun hx hy hne h => by
    refine Classical.byContradiction fun hc => ?_
    rw [compl_ad2.2 ⟨hx, hy, hne, bfalse hc⟩] at h; cases h
  have nac : a ≠ c := fun e => by
    subst e
    exact absurd (compl_ad2.2 ⟨ha, hd, h3, cd⟩) (by rw [ad']; decide)
  have nbd : b ≠ d := fun e => by
    subst e
    exact absurd (compl_ad2.2 ⟨ha, hb, h1, ab⟩) (by rw [ad']; decide)
  have nad : a ≠ d := fun e => by
    subst e
    exact absurd (compl_ad2.2 ⟨hb, ha, h1.symm, by rw [ad_symm g]; exact ab⟩) (by rw [bd]; decide)
  have e1 := no ha hc nac ac
  have e2 := no hb hd nbd bd
  have e3 := no ha hd nad ad'
  exact hp b d a c e2 (by rw [ad_symm g]; exact e3) e1 (by rw [ad_symm g]; exact ab) (by rw [ad_symm g]; exact cd) bc

end Go.Proofs.YtjikmjhpmkakoaaGreatDoor

namespace Go.Proofs.YtjikmjhpmkakoaaGreatDoor
open Go.RowKit

/-- A prune: the vertex, the kind, the anchor. -/
abbrev Prn := Nat × Nat × Int
/-- w is a false twin of v within S. -/
def tw2 (rs : List Int) (S v w : Nat) : Bool := decide (w ≠ v) && S.testBit w && !eb rs v w && decide (gn rs w &&& S = gn rs v &&& S)
/-- w is a true twin of v within S. -/
def tw3 (rs : List Int) (S v w : Nat) : Bool := S.testBit w && eb rs v w && decide ((gn rs w &&& S) ||| 2 ^ w = (gn rs v &&& S) ||| 2 ^ v)
def pruneV (rs : List Int) (S v : Nat) : Option Prn :=
  if gn rs v &&& S = 0 then some (v, 0, -1)
  else if cnt (gn rs v &&& S) = 1 then some (v, 1, (low (gn rs v &&& S) : Int))
  else match firstB (tw2 rs S v) rs.length with
    | some w => some (v, 2, (w : Int))
    | none => match firstB (tw3 rs S v) rs.length with
      | some w => some (v, 3, (w : Int))
      | none => none
theorem pruneV_0 {rs : List Int} {S v : Nat} (h : gn rs v &&& S = 0) : pruneV rs S v = some (v, 0, -1) := by unfold pruneV; rw [if_pos h]
theorem pruneV_1 {rs : List Int} {S v : Nat} (h : ¬gn rs v &&& S = 0) (h1 : cnt (gn rs v &&& S) = 1) : pruneV rs S v = some (v, 1, (low (gn rs v &&& S) : Int)) := by unfold pruneV; rw [if_neg h, if_pos h1]
theorem pruneV_2 {rs : List Int} {S v w : Nat} (h : ¬gn rs v &&& S = 0) (h1 : ¬cnt (gn rs v &&& S) = 1) (h2 : firstB (tw2 rs S v) rs.length = some w) : pruneV rs S v = some (v, 2, (w : Int)) := by
  unfold pruneV; rw [if_neg h, if_neg h1, h2]
theorem pruneV_3 {rs : List Int} {S v w : Nat} (h : ¬gn rs v &&& S = 0) (h1 : ¬cnt (gn rs v &&& S) = 1) (h2 : firstB (tw2 rs S v) rs.length = none) (h3 : firstB (tw3 rs S v) rs.length = some w) : pruneV rs S v = some (v, 3, (w : Int)) := by
  unfold pruneV; rw [if_neg h, if_neg h1, h2, h3]
theorem pruneV_no {rs : List Int} {S v : Nat} (h : ¬gn rs v &&& S = 0) (h1 : ¬cnt (gn rs v &&& S) = 1) (h2 : firstB (tw2 rs S v) rs.length = none) (h3 : firstB (tw3 rs S v) rs.length = none) : pruneV rs S v = none := by
  unfold pruneV; rw [if_neg h, if_neg h1, h2, h3]
/-- A pair of vertices within a set. -/
theorem pair_sub {S v w : Nat} (hv : S.testBit v = true) (hw : S.testBit w = true) : subN (2 ^ v ||| 2 ^ w) S := fun i hi => by
  rw [Nat.testBit_or, Bool.or_eq_true, pow_bit, pow_bit] at hi
  rcases hi with rfl | rfl
  · exact hv
  · exact hw
/-- The reference's tests. -/
theorem rows_but {rs : List Int} (g : VG rs) {S v w : Nat} (hS : S < 2 ^ rs.length) (hv : S.testBit v = true) (hw : S.testBit w = true) :
    ((gn rs v &&& S) &&& (S - (2 ^ v ||| 2 ^ w)) = gn rs w &&& (S - (2 ^ v ||| 2 ^ w))) ↔ ∀ i, S.testBit i = true → i ≠ v → i ≠ w → (gn rs v).testBit i = (gn rs w).testBit i := by
  have hp := g.pow.1
  rw [← nDiff_minus (by omega) (pair_sub hv hw)]
  have hb : ∀ i, (nDiff S (2 ^ v ||| 2 ^ w)).testBit i = true ↔ S.testBit i = true ∧ i ≠ v ∧ i ≠ w := fun i => by
    rw [nDiff_bit, Nat.testBit_or, Bool.or_eq_false_iff, Bool.eq_false_iff, Bool.eq_false_iff, ne_eq, ne_eq, pow_bit, pow_bit]
    constructor
    · rintro ⟨h1, h2, h3⟩; exact ⟨h1, fun e => h2 e.symm, fun e => h3 e.symm⟩
    · rintro ⟨h1, h2, h3⟩; exact ⟨h1, fun e => h2 e.symm, fun e => h3 e.symm⟩
  constructor
  · intro h i hi h1 h2
    have h3 := congrArg (fun x => x.testBit i) h
    simp only [Nat.testBit_and, hi, (hb i).2 ⟨hi, h1, h2⟩, Bool.and_true] at h3
    exact h3
  · intro h
    apply Nat.eq_of_testBit_eq
    intro i
    rw [Nat.testBit_and, Nat.testBit_and, Nat.testBit_and]
    cases hc : (nDiff S (2 ^ v ||| 2 ^ w)).testBit i
    · simp
    · obtain ⟨h1, h2, h3⟩ := (hb i).1 hc
      rw [h i h1 h2 h3, h1]; simp
theorem and_eq_iff {a b S : Nat} : a &&& S = b &&& S ↔ ∀ i, S.testBit i = true → a.testBit i = b.testBit i := by
  constructor
  · intro h i hi
    have h3 := congrArg (fun x => x.testBit i) h
    simpa only [Nat.testBit_and, hi, Bool.and_true] using h3
  · intro h
    apply Nat.eq_of_testBit_eq
    intro i
    rw [Nat.testBit_and, Nat.testBit_and]
    cases hc : S.testBit i
    · simp
    · rw [h i hc]
theorem tw2_spec {rs : List Int} (g : VG rs) {S v w : Nat} (hS : S < 2 ^ rs.length) (hv : S.testBit v = true) (hw : S.testBit w = true) (hne : w ≠ v) (he : eb rs v w = false) :
    decide ((gn rs v &&& S) &&& (S - (2 ^ v ||| 2 ^ w)) = gn rs w &&& (S - (2 ^ v ||| 2 ^ w))) = tw2 rs S v w := by
  have hvl := testBit_lt hS hv
  have hwl := testBit_lt hS hw
  have he2 : eb rs w v = false := by rw [eb_sym g hwl hvl]; exact he
  have h1 := eb_irr g hvl
  have h2 := eb_irr g hwl
  unfold tw2
  rw [hw, he, decide_eq_true hne]
  simp only [Bool.and_true, Bool.not_false, Bool.true_and]
  rw [Bool.eq_iff_iff, decide_eq_true_eq, decide_eq_true_eq, rows_but g hS hv hw, and_eq_iff]
  constructor
  · intro h i hi
    by_cases e : i = v
    · subst e; exact he2.trans h1.symm
    · by_cases e3 : i = w
      · subst e3; exact h2.trans he.symm
      · exact (h i hi e e3).symm
  · intro h i hi _ _
    exact (h i hi).symm
theorem tw3_spec {rs : List Int} (g : VG rs) {S v w : Nat} (hS : S < 2 ^ rs.length) (hv : S.testBit v = true) (hw : S.testBit w = true) (he : eb rs v w = true) :
    decide ((gn rs v &&& S) &&& (S - (2 ^ v ||| 2 ^ w)) = gn rs w &&& (S - (2 ^ v ||| 2 ^ w))) = tw3 rs S v w := by
  have hvl := testBit_lt hS hv
  have hwl := testBit_lt hS hw
  have he2 : eb rs w v = true := by rw [eb_sym g hwl hvl]; exact he
  have h1 := eb_irr g hvl
  have h2 := eb_irr g hwl
  unfold tw3
  rw [hw, he]
  simp only [Bool.and_true, Bool.true_and]
  rw [Bool.eq_iff_iff, decide_eq_true_eq, decide_eq_true_eq, rows_but g hS hv hw]
  constructor
  · intro h
    apply Nat.eq_of_testBit_eq
    intro i
    rw [Nat.testBit_or, Nat.testBit_or, Nat.testBit_and, Nat.testBit_and, Nat.testBit_two_pow, Nat.testBit_two_pow]
    by_cases e : v = i
    · subst e
      rw [show (gn rs w).testBit v = true from he2, hv]; simp
    · by_cases e3 : w = i
      · subst e3
        rw [show (gn rs v).testBit w = true from he, hw]; simp
      · rw [decide_eq_false e, decide_eq_false e3]
        cases hc : S.testBit i
        · simp
        · rw [h i hc (fun x => e x.symm) (fun x => e3 x.symm)]
  · intro h i hi hiv hiw
    have h3 := congrArg (fun x => x.testBit i) h
    simp only [Nat.testBit_or, Nat.testBit_and, hi, Nat.testBit_two_pow, decide_eq_false (fun e : v = i => hiv e.symm), decide_eq_false (fun e : w = i => hiw e.symm), Bool.and_true, Bool.or_false] at h3
    exact h3.symm

/-! ### All prunes -/
/-- The vertex that is taken next. -/
def nextV (rs : List Int) (S : Nat) : Option Nat := firstB (fun v => S.testBit v && (pruneV rs S v).isSome) rs.length
def pruneRun (rs : List Int) : Nat → Nat → List Prn → Option (List Prn)
  | 0, _, ps => some ps
  | f + 1, S, ps => if S = 0 then some ps else match nextV rs S with
    | none => none
    | some v => match pruneV rs S v with
      | none => none
      | some p => pruneRun rs f (S - 2 ^ v) (ps ++ [p])
def prunesV (n : Int) (rs : List Int) : Option (List Prn) := if isGraphB n rs = true then pruneRun rs rs.length (2 ^ rs.length - 1) [] else none
theorem prunesV_no {n : Int} {rs : List Int} (h : isGraphB n rs = false) : prunesV n rs = none := by unfold prunesV; rw [if_neg (by rw [h]; decide)]
theorem prunesV_of {n : Int} {rs : List Int} (h : isGraphB n rs = true) : prunesV n rs = pruneRun rs rs.length (2 ^ rs.length - 1) [] := by unfold prunesV; rw [if_pos h]
theorem pruneRun_zero (rs : List Int) (f : Nat) (ps : List Prn) : pruneRun rs f 0 ps = some ps := by cases f <;> simp [pruneRun]
theorem pruneRun_none {rs : List Int} {f S : Nat} {ps : List Prn} (h0 : S ≠ 0) (h : nextV rs S = none) : pruneRun rs (f + 1) S ps = none := by
  show (if S = 0 then _ else _) = _
  rw [if_neg h0, h]
theorem pruneRun_some {rs : List Int} {f S v : Nat} {ps : List Prn} {p : Prn} (h0 : S ≠ 0) (h : nextV rs S = some v) (hp : pruneV rs S v = some p) : pruneRun rs (f + 1) S ps = pruneRun rs f (S - 2 ^ v) (ps ++ [p]) := by
  show (if S = 0 then _ else _) = _
  rw [if_neg h0, h]
  simp only [hp]
/-- The numbers that lie in memory. -/
def flatP (ps : List Prn) : List Int := ps.flatMap fun p => [(p.1 : Int), (p.2.1 : Int), p.2.2]
theorem flatP_len (ps : List Prn) : (flatP ps).length = ps.length * 3 := by
  induction ps with
  | nil => rfl
  | cons p ps ih => simp only [flatP, List.flatMap_cons, List.length_append, List.length_cons, List.length_nil] at *; omega
theorem flatP_snoc (ps : List Prn) (p : Prn) : flatP (ps ++ [p]) = flatP ps ++ [(p.1 : Int), (p.2.1 : Int), p.2.2] := by simp [flatP]

end Go.Proofs.YtjikmjhpmkakoaaGreatDoor

namespace Go.Proofs.YtjikmjhpmkakoaaGreatDoor
open Go.RowKit

theorem info_prune : (Tryz.prog.info? 36).map (fun i => (i.zero, i.size, i.bytes)) = some (some (.agg #[.int .i64 0, .int .i64 0, .int .i64 0]), 3, 24) := by kernel_rfl
/-- The cells of a prune. -/
def cellsP (p : Prn) : List Value := [.int .i64 (p.1 : Int), .int .i64 (p.2.1 : Int), .int .i64 p.2.2]
theorem flatP_map (ps : List Prn) (p : Prn) : (flatP (ps ++ [p])).map (Value.int .i64) = (flatP ps).map (Value.int .i64) ++ cellsP p := by rw [flatP_snoc]; simp [cellsP]
/-- The slice value v owns the prunes ps in a row of the call's own, from block 'base' on. -/
def OwnPL (w : World) (base : Nat) (v : Value) (ps : List Prn) : Prop := w.ownsRow base 36 3 v ps.length ((flatP ps).map (Value.int .i64))
def OwnP (w : World) (base : Nat) (ao : Option Addr) (cap : Nat) (ps : List Prn) : Prop := OwnPL w base (.slice ao ps.length cap) ps ∨ (ps = [] ∧ cap = 0 ∧ ao ≠ none)
theorem OwnPL.form {w : World} {base : Nat} {v : Value} {ps : List Prn} (h : OwnPL w base v ps) : ∃ ao cap, v = .slice ao ps.length cap := by
  obtain ⟨hl, ⟨h1, h2⟩ | ⟨g, cp, cur, hv, -⟩⟩ := h
  · exact ⟨none, 0, by rw [h1, h2]⟩
  · exact ⟨_, _, hv⟩
theorem OwnPL.mono {w : World} {base base' : Nat} {v : Value} {ps : List Prn} (h : OwnPL w base v ps) (hb : base' ≤ base) : OwnPL w base' v ps := by
  obtain ⟨h0, h1 | ⟨g, cap, cur, hv, hg, r⟩⟩ := h
  · exact ⟨h0, .inl h1⟩
  · exact ⟨h0, .inr ⟨g, cap, cur, hv, Nat.le_trans hb hg, r⟩⟩
theorem OwnPL.below {w w' : World} {base : Nat} {v : Value} {ps : List Prn} (h : OwnPL w base v ps) (hb : Below w.heap.size w w') : OwnPL w' base v ps := by
  obtain ⟨h0, h1 | ⟨g, cap, cur, hv, hg, hh, r⟩⟩ := h
  · exact ⟨h0, .inl h1⟩
  · exact ⟨h0, .inr ⟨g, cap, cur, hv, hg, by rw [hb.block g (Array.getElem?_eq_some_iff.1 hh).1]; exact hh, r⟩⟩
theorem OwnPL.lt {w : World} {base : Nat} {v : Value} {ps : List Prn} (h : OwnPL w base v ps) : ∀ k, v.ownBlock = some k → base ≤ k := by
  intro k hk
  obtain ⟨hl, ⟨h1, h2⟩ | ⟨g, cp, cur, hv, hg, -⟩⟩ := h
  · rw [h1] at hk; cases hk
  · rw [hv] at hk
    simp only [Value.ownBlock, Option.some.injEq] at hk
    omega
theorem OwnP.below {w w' : World} {base cap : Nat} {ao : Option Addr} {ps : List Prn} (h : OwnP w base ao cap ps) (hb : Below w.heap.size w w') : OwnP w' base ao cap ps := h.imp (fun h => h.below hb) id
theorem OwnP.mono {w : World} {base base' cap : Nat} {ao : Option Addr} {ps : List Prn} (h : OwnP w base ao cap ps) (hb : base' ≤ base) : OwnP w base' ao cap ps := h.imp (fun h => h.mono hb) id
theorem OwnP.nil (w : World) (base : Nat) : OwnP w base none 0 [] := .inl (World.ownsRow_nil _ _ _ _)
theorem OwnP.empty (w : World) (base : Nat) (a : Addr) : OwnP w base (some a) 0 [] := .inr ⟨rfl, rfl, by simp⟩
theorem OwnP.ints {w : World} {base cap : Nat} {ao : Option Addr} {ps : List Prn} (h : OwnP w base ao cap ps) : IntsAt w ao (flatP ps) := fun h0 => by
  rcases h with ⟨hl, ⟨h1, h2⟩ | ⟨g, cp, cur, hv, hg, hb, hn, hm, hsz, ht⟩⟩ | ⟨rfl, -, -⟩
  · have : ps = [] := List.eq_nil_of_length_eq_zero h2
    rw [this] at h0; simp [flatP] at h0
  · simp only [Value.slice.injEq] at hv
    obtain ⟨rfl, -, -⟩ := hv
    refine ⟨g, 0, rfl, (Array.getElem?_eq_some_iff.1 hb).1, fun k hk => ?_⟩
    have hk3 : k < ps.length * 3 := by rw [flatP_len] at hk; exact hk
    have : cur[k]? = some (.int .i64 (gi (flatP ps) k)) := by
      have e : (cur.toList.take (ps.length * 3))[k]? = ((flatP ps).map (Value.int .i64))[k]? := by rw [ht]
      rw [List.getElem?_take, if_pos hk3, Array.getElem?_toList] at e
      rw [e]; simp [gi, hk]
    rw [Nat.zero_add]
    simp only [World.cell?, hb]
    simpa using this
  · simp [flatP] at h0

/-- 'out = append(out, p)' at an operation: the prune stands in a block of its own. -/
theorem wp_append_p {o : Oper} {a : Act} {K : Act → World → Prop} {Q : Exit → Act → World → Prop} {w : World} (s x : Operand)
    (ho : o.op = .call { callee := .builtin .append, args := #[s, x], argTypes := #[28, 28] })
    (base cap : Nat) (ao : Option Addr) (ps : List Prn) (p : Prn) (B : Nat) (hs : a.eval s = .slice ao ps.length cap) (hown : OwnP w base ao cap ps) (hx : a.eval x = .slice (some ⟨B, 0, none⟩) 1 1)
    (c0 : w.cell? ⟨B, 0, none⟩ = some (.int .i64 (p.1 : Int))) (c1 : w.cell? ⟨B, 1, none⟩ = some (.int .i64 (p.2.1 : Int))) (c2 : w.cell? ⟨B, 2, none⟩ = some (.int .i64 p.2.2)) (hbase : base ≤ w.heap.size) (hlen : ps.length ≤ 1048576)
    (h : ∀ ao' cap' w', OwnP w' base ao' cap' (ps ++ [p]) → Below base w w' → K (a.put o.dst (.slice ao' (ps.length + 1) cap')) w') : o.wp Tryz.prog a w K Q := by
  have he : (ps ++ [p]).length = ps.length + 1 := by simp
  have hnews : ∀ j u, (cellsP p)[j]? = some u → w.cell? ((⟨B, 0, none⟩ : Addr).add j) = some u := by
    intro j u hj
    match j, hj with
    | 0, hj => simp [cellsP] at hj; subst hj; simpa [Addr.add] using c0
    | 1, hj => simp [cellsP] at hj; subst hj; simpa [Addr.add] using c1
    | 2, hj => simp [cellsP] at hj; subst hj; simpa [Addr.add] using c2
    | _ + 3, hj => simp [cellsP] at hj
  have h1 : ∀ u ∈ cellsP p, u.oneCell' = true := by intro u hu; simp [cellsP] at hu; rcases hu with rfl | rfl | rfl <;> rfl
  obtain ⟨i0, hi, hz0, hz1, hz2⟩ := info_parts info_prune
  rcases hown with hown | ⟨rfl, rfl, hne⟩
  · refine wp_append_own w s x 28 ho base 36 i0 (.agg #[.int .i64 0, .int .i64 0, .int .i64 0]) 3 24 Tryz.underlying28 hi hz0 hz1 hz2 rfl (by decide) (.slice ao ps.length cap) ps.length ((flatP ps).map (Value.int .i64)) hs hown
      ⟨B, 0, none⟩ 1 1 (cellsP p) hx rfl hnews h1 (by unfold maxLen; omega) (by omega) hbase ?_
    intro v' w' h1 h2 _
    have h3 : OwnPL w' base v' (ps ++ [p]) := by unfold OwnPL; rw [flatP_map, he]; exact h1
    obtain ⟨ao', cap', rfl⟩ := h3.form
    rw [he] at h3 ⊢
    refine h ao' cap' w' (.inl (by rw [he]; exact h3)) ?_
    exact (Below.refl base w).grown h2 hbase hown.lt
  · obtain ⟨b, rfl⟩ := Option.ne_none_iff_exists'.1 hne
    obtain ⟨v', w', hrun, r1, r2⟩ := run_append_arg_grows (P := Tryz.prog) w 28 o.type 36 i0 (.agg #[.int .i64 0, .int .i64 0, .int .i64 0]) 3 24 Tryz.underlying28 hi hz0 hz1 hz2 rfl (by decide) b 0 0 [] rfl (by simp) ⟨B, 0, none⟩ 1 1 (cellsP p) rfl hnews (by omega) (by unfold maxLen; omega) (by omega)
    have h3 : OwnPL w' base v' [p] := by
      have : OwnPL w' w.heap.size v' [p] := by unfold OwnPL; simpa [flatP, cellsP] using r1
      exact this.mono hbase
    obtain ⟨ao', cap', rfl⟩ := h3.form
    have hs' : a.eval s = .slice (some b) 0 0 := hs
    unfold Oper.wp
    simp only [execOp, ho, resolve, invoke, builtin, Sem.run_bind, Sem.run_pure, Result.andThen_ok, List.map_toArray, List.map_cons, List.map_nil, hs', hx, hrun]
    exact h ao' cap' w' (.inl h3) ((Below.refl base w).grown r2 hbase (fun k hk => by cases hk))
theorem step_append_p {ops : Array Oper} {o : Oper} {a : Act} {K : Act → World → Prop} {Q : Exit → Act → World → Prop} {E : Prop} {w : World} (hgd : o.guard = none) (s x : Operand)
    (ho : o.op = .call { callee := .builtin .append, args := #[s, x], argTypes := #[28, 28] })
    (base cap : Nat) (ao : Option Addr) (ps : List Prn) (p : Prn) (B : Nat) (hs : a.eval s = .slice ao ps.length cap) (hown : OwnP w base ao cap ps) (hx : a.eval x = .slice (some ⟨B, 0, none⟩) 1 1)
    (c0 : w.cell? ⟨B, 0, none⟩ = some (.int .i64 (p.1 : Int))) (c1 : w.cell? ⟨B, 1, none⟩ = some (.int .i64 (p.2.1 : Int))) (c2 : w.cell? ⟨B, 2, none⟩ = some (.int .i64 p.2.2)) (hbase : base ≤ w.heap.size) (hlen : ps.length ≤ 1048576)
    (h : ∀ ao' cap' w', OwnP w' base ao' cap' (ps ++ [p]) → Below base w w' → K (a.put o.dst (.slice ao' (ps.length + 1) cap')) w') :
    if Region.wanted o (yielded ops a.tmps) = true then Oper.wp Tryz.prog o a w K Q else E := by
  have hw : Region.wanted o (yielded ops a.tmps) = true := by simp [Region.wanted, hgd]
  rw [if_pos hw]
  exact wp_append_p s x ho base cap ao ps p B hs hown hx c0 c1 c2 hbase hlen h
/-! ### How a vertex can be taken away -/
/-- What the test of a prune returns. -/
def RetP (w : World) (p : Option Prn) (e : Ending) (w' : World) : Prop :=
  e = .returned (.tuple #[.agg #[.int .i64 ((p.getD (0, 0, 0)).1 : Int), .int .i64 ((p.getD (0, 0, 0)).2.1 : Int), .int .i64 (p.getD (0, 0, 0)).2.2], .bool p.isSome]) ∧ Below w.heap.size w w'

end Go.Proofs.YtjikmjhpmkakoaaGreatDoor

namespace Go.Proofs.YtjikmjhpmkakoaaGreatDoor
open Go.RowKit

end Go.Proofs.YtjikmjhpmkakoaaGreatDoor
