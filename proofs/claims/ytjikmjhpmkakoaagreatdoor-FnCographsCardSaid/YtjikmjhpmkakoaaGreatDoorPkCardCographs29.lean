/-
  Plain: the reference's reader of cotrees keeps a graph, and how a part is joined edge by edge. No conditions.
  The walk of IsSimple of the program. For at most 2^20 rows.
  slices.IndexFunc and SimpleOrder of the program. For at most 2^20 rows.
  indexOf of the program: the place of an arc in a list of arcs. For at most 2^20 arcs.
  The walk of the reference's ForcedArcs. For at most 2^20 rows.
-/
import Derived.Test.YtjikmjhpmkakoaaGreatDoorPkCardCographs28
import Derived.Test.YtjikmjhpmkakoaaGreatDoorPkCardCographs24
import Derived.Test.YtjikmjhpmkakoaaGreatDoorPkCardCographs04
import Derived.Deep.RegionHeld3
import Derived.Test.YtjikmjhpmkakoaaGreatDoorPkCardCographs26
import Derived.Test.YtjikmjhpmkakoaaGreatDoorPkCardCographs01
import Derived.Deep.RegionLaw
import Derived.Laws.EntriesVeiled
import Derived.Test.YtjikmjhpmkakoaaGreatDoorPkCardCographs15
import Derived.Test.YtjikmjhpmkakoaaGreatDoorPkCardCographs16
import Derived.Deep.CutRange
namespace Go.Proofs.YtjikmjhpmkakoaaGreatDoor
open Go.RowKit

/-- Is the pair of out and part below the place (k, j)? -/
def jB (out part k j v w : Nat) : Bool := (out.testBit v && part.testBit w) && (decide (v < k) || (decide (v = k) && decide (w < j)))
/-- The graph when the pairs below (k, j) have been joined. -/
def jnTo (rs : List Int) (out part k j : Nat) : List Int := rowsOf rs.length fun v w => eb rs v w || (jB out part k j v w || jB out part k j w v)
theorem jnTo_len (rs : List Int) (out part k j : Nat) : (jnTo rs out part k j).length = rs.length := rowsOf_len _ _
theorem jnTo_eb {rs : List Int} {out part k j v w : Nat} (hv : v < rs.length) (hw : w < rs.length) : eb (jnTo rs out part k j) v w = (eb rs v w || (jB out part k j v w || jB out part k j w v)) := eb_rowsOf hv hw
theorem jB_dis {out part k j v : Nat} (h : part &&& out = 0) : jB out part k j v v = false := by
  unfold jB
  have h2 : (part &&& out).testBit v = false := by rw [h]; simp
  rw [Nat.testBit_and] at h2
  cases h1 : out.testBit v <;> cases h3 : part.testBit v <;> simp_all
theorem jnTo_VG {rs : List Int} (g : VG rs) {out part : Nat} (h : part &&& out = 0) (k j : Nat) : VG (jnTo rs out part k j) :=
  rowsOf_VG g.pos g.le (fun i hi => by rw [eb_irr g hi, jB_dis h]; rfl) (fun i hi j' hj => by rw [eb_sym g hi hj, Bool.or_comm (jB out part k j i j')])
theorem jnTo_zero {rs : List Int} (g : VG rs) (out part : Nat) : jnTo rs out part 0 0 = rs := by
  refine (rows_of g fun i _ j _ => ?_).symm
  simp [jB]
theorem jnTo_row (rs : List Int) (out part k : Nat) : jnTo rs out part k rs.length = jnTo rs out part (k + 1) 0 := by
  refine rowsOf_congr fun v hv w hw => ?_
  congr 1
  congr 1 <;> (unfold jB; congr 1; rw [Bool.eq_iff_iff]; simp; omega)
theorem jnTo_no {rs : List Int} {out part k j : Nat} (h : (out.testBit k && part.testBit j) = false) : jnTo rs out part k j = jnTo rs out part k (j + 1) := by
  have key : ∀ v w, jB out part k j v w = jB out part k (j + 1) v w := fun v w => by
    unfold jB
    by_cases e : v = k ∧ w = j
    · obtain ⟨rfl, rfl⟩ := e
      rw [h]; rfl
    · congr 1
      rw [Bool.eq_iff_iff]
      simp only [Bool.or_eq_true, Bool.and_eq_true, decide_eq_true_eq]
      omega
  refine rowsOf_congr fun v _ w _ => ?_
  rw [key, key]
theorem jnTo_add {rs : List Int} {out part k j : Nat} (h : (out.testBit k && part.testBit j) = true) : addE (jnTo rs out part k j) k j = jnTo rs out part k (j + 1) := by
  have key : ∀ v w, jB out part k (j + 1) v w = (jB out part k j v w || (decide (v = k) && decide (w = j))) := fun v w => by
    unfold jB
    by_cases e : v = k ∧ w = j
    · obtain ⟨rfl, rfl⟩ := e
      rw [h]; simp
    · have e2 : (decide (v = k) && decide (w = j)) = false := by simpa using e
      rw [e2, Bool.or_false]
      congr 1
      rw [Bool.eq_iff_iff]
      simp only [Bool.or_eq_true, Bool.and_eq_true, decide_eq_true_eq]
      omega
  unfold addE
  rw [jnTo_len]
  refine rowsOf_congr fun v hv w hw => ?_
  rw [jnTo_eb hv hw, key, key]
  unfold isE
  cases eb rs v w <;> cases jB out part k j v w <;> cases jB out part k j w v <;> simp
  · cases decide (v = k) <;> cases decide (w = j) <;> cases decide (v = j) <;> cases decide (w = k) <;> rfl
theorem jnTo_full (rs : List Int) (out part : Nat) : jnTo rs out part rs.length 0 = rdJoinS true out part rs := by
  unfold rdJoinS
  rw [if_pos rfl]
  refine rowsOf_congr fun v hv w hw => ?_
  unfold jB
  rw [decide_eq_true hv, decide_eq_true hw]
  cases out.testBit v <;> cases part.testBit w <;> cases out.testBit w <;> cases part.testBit v <;> simp
theorem rdJoinS_VG {rs : List Int} (g : VG rs) {out part : Nat} (h : part &&& out = 0) (join : Bool) : VG (rdJoinS join out part rs) := by
  cases join
  · exact g
  · rw [← jnTo_full]; exact jnTo_VG g h _ _
theorem rdJoinS_len (join : Bool) (out part : Nat) (rs : List Int) : (rdJoinS join out part rs).length = rs.length := by
  cases join
  · rfl
  · rw [← jnTo_full]; exact jnTo_len _ _ _ _ _

/-- What the reader hands back is right. -/
def RdSOk (n : Nat) (L : List UInt8) (p : Nat) (r : Option (List Int × Nat × Nat)) : Prop := ∀ rs S q, r = some (rs, S, q) → VG rs ∧ rs.length = n ∧ S < 128 ∧ p ≤ q ∧ q ≤ L.length
theorem rdS_ok (L : List UInt8) : ∀ (F : Nat) (t : Option (Bool × Nat)) (rs : List Int) (p : Nat), VG rs → p ≤ L.length → (∀ x, t = some x → x.2 < 128) → RdSOk rs.length L p (rdS L F t rs p)
  | 0, t, rs, p, g, hp, _ => by
    intro rs' S q e
    unfold rdS at e
    cases e
  | F + 1, none, rs, p, g, hp, _ => by
    unfold rdS
    split
    · intro rs' S q e; cases e
    · split
      · rename_i h1 h2
        intro rs' S q e
        simp only [Option.some.injEq, Prod.mk.injEq] at e
        obtain ⟨rfl, rfl, rfl⟩ := e
        have : 2 ^ ((L.getD p 0).toNat - 48) ≤ 2 ^ 6 := Nat.pow_le_pow_right (by decide) (by omega)
        exact ⟨g, rfl, by omega, by omega, by omega⟩
      · split
        · intro rs' S q e; cases e
        · rename_i h1 h2 h3
          have h4 : ¬L.length ≤ p + 1 := fun h => h3 (.inr (.inl h))
          intro rs' S q e
          obtain ⟨a, b, c, d, e⟩ := rdS_ok L F _ rs (p + 2) g (by omega) (fun x e => by cases e; simp) rs' S q e
          exact ⟨a, b, c, by omega, e⟩
  | F + 1, some (join, out), rs, p, g, hp, ho => by
    have ho := ho _ rfl
    dsimp only at ho
    unfold rdS
    split
    · rename_i h1
      have ih := rdS_ok L F none rs (p + 1) g (by omega) (fun x e => by cases e)
      split
      · intro rs' S q e; cases e
      · rename_i rs2 part p2 h2
        obtain ⟨a, b, c, d, e⟩ := ih _ _ _ h2
        split
        · intro rs' S q e; cases e
        · rename_i h3
          have h3 : part &&& out = 0 := by simpa using h3
          have hV := rdJoinS_VG a h3 join
          have hN := rdJoinS_len join out part rs2
          unfold rdJoinS at hV hN
          intro rs' S q e
          obtain ⟨a2, b2, c2, d2, e2⟩ := rdS_ok L F _ _ p2 hV (by omega) (fun x e => by cases e; exact or_128 ho c) rs' S q e
          exact ⟨a2, by rw [b2, hN, b], c2, by omega, e2⟩
    · split
      · intro rs' S q e
        simp only [Option.some.injEq, Prod.mk.injEq] at e
        obtain ⟨rfl, rfl, rfl⟩ := e
        exact ⟨g, rfl, ho, by omega, by omega⟩
      · intro rs' S q e; cases e

/-! ### The mirror, step by step -/
theorem rdS_end {L : List UInt8} {F : Nat} {rs : List Int} {p : Nat} (h : L.length ≤ p) : rdS L (F + 1) none rs p = none := by
  rw [rdS, if_pos h]
theorem rdS_digit {L : List UInt8} {F : Nat} {rs : List Int} {p : Nat} (h : p < L.length) (h2 : 48 ≤ (L.getD p 0).toNat ∧ (L.getD p 0).toNat ≤ 54) : rdS L (F + 1) none rs p = some (rs, 2 ^ ((L.getD p 0).toNat - 48), p + 1) := by
  rw [rdS, if_neg (by omega), if_pos h2]
theorem rdS_wrong {L : List UInt8} {F : Nat} {rs : List Int} {p : Nat} (h : p < L.length) (h2 : ¬(48 ≤ (L.getD p 0).toNat ∧ (L.getD p 0).toNat ≤ 54)) (h3 : L.getD p 0 ≠ 40 ∨ L.length ≤ p + 1 ∨ (L.getD (p + 1) 0 ≠ 43 ∧ L.getD (p + 1) 0 ≠ 42)) : rdS L (F + 1) none rs p = none := by
  rw [rdS, if_neg (by omega), if_neg h2, if_pos h3]
theorem rdS_open {L : List UInt8} {F : Nat} {rs : List Int} {p : Nat} (h : p < L.length) (h2 : ¬(48 ≤ (L.getD p 0).toNat ∧ (L.getD p 0).toNat ≤ 54)) (h3 : ¬(L.getD p 0 ≠ 40 ∨ L.length ≤ p + 1 ∨ (L.getD (p + 1) 0 ≠ 43 ∧ L.getD (p + 1) 0 ≠ 42))) :
    rdS L (F + 1) none rs p = rdS L F (some (decide (L.getD (p + 1) 0 = 42), 0)) rs (p + 2) := by
  rw [rdS, if_neg (by omega), if_neg h2, if_neg h3]
theorem rdS_sub {L : List UInt8} {F : Nat} {rs : List Int} {p out : Nat} {join : Bool} (h : p < L.length ∧ L.getD p 0 = 32) (h2 : rdS L F none rs (p + 1) = none) : rdS L (F + 1) (some (join, out)) rs p = none := by
  rw [rdS, if_pos h, h2]
theorem rdS_clash {L : List UInt8} {F : Nat} {rs rs2 : List Int} {p out part p2 : Nat} {join : Bool} (h : p < L.length ∧ L.getD p 0 = 32) (h2 : rdS L F none rs (p + 1) = some (rs2, part, p2)) (h3 : part &&& out ≠ 0) : rdS L (F + 1) (some (join, out)) rs p = none := by
  rw [rdS, if_pos h, h2]
  dsimp only
  rw [if_pos h3]
theorem rdS_go {L : List UInt8} {F : Nat} {rs rs2 : List Int} {p out part p2 : Nat} {join : Bool} (h : p < L.length ∧ L.getD p 0 = 32) (h2 : rdS L F none rs (p + 1) = some (rs2, part, p2)) (h3 : part &&& out = 0) : rdS L (F + 1) (some (join, out)) rs p = rdS L F (some (join, out ||| part)) (rdJoinS join out part rs2) p2 := by
  rw [rdS, if_pos h, h2]
  dsimp only
  rw [if_neg (by simp [h3])]
  rfl
theorem rdS_close {L : List UInt8} {F : Nat} {rs : List Int} {p out : Nat} {join : Bool} (h : p < L.length) (h2 : L.getD p 0 = 41) : rdS L (F + 1) (some (join, out)) rs p = some (rs, out, p + 1) := by
  rw [rdS, if_neg (by rw [h2]; simp), if_pos ⟨h, h2⟩]
theorem rdS_open_end {L : List UInt8} {F : Nat} {rs : List Int} {p out : Nat} {join : Bool} (h : ¬(p < L.length ∧ L.getD p 0 = 32)) (h2 : ¬(p < L.length ∧ L.getD p 0 = 41)) : rdS L (F + 1) (some (join, out)) rs p = none := by
  rw [rdS, if_neg h, if_neg h2]

end Go.Proofs.YtjikmjhpmkakoaaGreatDoor

namespace Go.Proofs.YtjikmjhpmkakoaaGreatDoor
open Go.RowKit

end Go.Proofs.YtjikmjhpmkakoaaGreatDoor

namespace Go.Proofs.YtjikmjhpmkakoaaGreatDoor
open Go.RowKit

theorem idxV_first {p : Nat → Bool} {n k : Nat} (hk : k < n) (h : ∀ j, j < k → p j = false) (hp : p k = true) : (k : Int) = idxV (firstB p n) := by rw [firstB_hit hk h hp]; rfl
theorem idxV_never {p : Nat → Bool} {n : Nat} (h : ∀ j, j < n → p j = false) : -1 = idxV (firstB p n) := by rw [firstB_none h]; rfl

set_option maxHeartbeats 400000 in
theorem indexFunc_any (xs : List Int) (K : Nat) (caps : Array Value) (p : Nat → Bool) (ao : Option Addr) (n c : Nat) (w : World) (hx : IntsAt w ao xs) (hn : xs.length = n) (hl : n ≤ 1048576)
    (hE : ∀ args w, Sem.run Tryz.prog (callFunc K args) w = .ok (.enter K args) w) (hK : ∀ (m : Later w) (j : Nat), j < n → Calls Tryz.prog K (#[.int .i64 (gi xs j)] ++ caps) m.w fun e w' => e = .returned (.bool (p j)) ∧ Below m.w.heap.size m.w w') :
    Calls Tryz.prog 82 #[.slice ao n c, .func (.func K) #[] caps] w fun e w' => e = .returned (.int .i64 (idxV (firstB p n))) ∧ Below w.heap.size w w' := by
  subst hn
  have HhK := Lib.hid hK
  clear hK
  go_enter Tryz.func82, Tryz.ntmps82
  go_wp2_with fail
  go_loopw [8] (fun i wr => (∃ m : Later w, wr = m.w) ∧ ∃ k : Nat, k ≤ xs.length ∧ i = .int .i64 k ∧ ∀ j, j < k → p j = false) (fun i _ => xs.length - (intOf i).toNat)
  case atStart => exact ⟨⟨Later.refl _, rfl⟩, 0, by omega, rfl, fun j h => by omega⟩
  case round =>
    obtain ⟨⟨m, rfl⟩, k, hk, rfl, hP⟩ := hrel
    have HhP := Lib.hid hP
    clear hP
    by_cases hlt : k < xs.length
    · obtain ⟨b, off, rfl, hbl, hc⟩ := hx (by omega)
      have hkc := hc k hlt
      have hKk := HhK.out m k hlt
      clear hc
      generalize gi xs k = x at *
      have HhKk := Lib.hid hKk
      clear hKk
      go_wp2_with fail
      refine HhKk.out.mono ?_
      rintro e w2 ⟨rfl, hB2⟩
      obtain ⟨m, rfl⟩ : ∃ m2 : Later w, m2.w = w2 := ⟨m.on hB2, rfl⟩
      clear hB2
      cases he : p k
      all_goals
        go_wp2_with fail
      · go_roundw
        case rel => exact ⟨⟨m, rfl⟩, k + 1, by omega, by go_num, all_succ HhP.out he⟩
        case measure => simp [intOf]; omega
      · go_ret
        exact ⟨retI (idxV_first hlt HhP.out he), m.below⟩
    · go_wp2_with fail
      go_ret
      exact ⟨retI (idxV_never (fun j h => HhP.out j (by omega))), m.below⟩

/-- The first place of a list that passes. -/
theorem find_first (p : Nat → Bool) (l : List Nat) : (firstB (fun j => p (eln l j)) l.length = none ∧ l.find? p = none) ∨ ∃ j, j < l.length ∧ firstB (fun j => p (eln l j)) l.length = some j ∧ l.find? p = some (eln l j) := by
  rcases h : firstB (fun j => p (eln l j)) l.length with _ | j
  · refine .inl ⟨rfl, ?_⟩
    rw [List.find?_eq_none]
    intro x hx
    obtain ⟨i, hi, rfl⟩ := List.mem_iff_getElem.1 hx
    unfold firstB at h
    rw [List.find?_eq_none] at h
    have := h i (by simpa using hi)
    simpa [eln, hi] using this
  · refine .inr ⟨j, ?_⟩
    unfold firstB at h
    rw [List.find?_range_eq_some] at h
    obtain ⟨h1, h2, h3⟩ := h
    have hj : j < l.length := by simpa using h2
    refine ⟨hj, rfl, ?_⟩
    rw [List.find?_eq_some_iff_getElem]
    refine ⟨h1, j, hj, by simp [eln, hj], fun i hi => ?_⟩
    have := h3 i hi
    have hil : i < l.length := by omega
    simpa [eln, hil] using this
theorem nDiff_pow {S v : Nat} (h : S < 9223372036854775808) (hv : S.testBit v = true) : nDiff S (2 ^ v) = S - 2 ^ v := by
  have h1 := nDiff_add (b := 2 ^ v) h
  have h2 : 2 ^ v &&& S = 2 ^ v := by
    apply Nat.eq_of_testBit_eq
    intro i
    rw [Nat.testBit_and, Nat.testBit_two_pow]
    by_cases e : v = i
    · subst e; simp [hv]
    · simp [e]
  rw [h2] at h1
  omega
theorem OwnE.setB' {w : World} {base cap : Nat} {ao : Option Addr} {xs : List Int} (h : OwnE w base ao cap xs) {a : Addr} (ha : a.block < base) (u : Value) : OwnE (w.setCell a u) base ao cap xs :=
  h.imp (fun h => ownsRow_setCell_below h ha u) id
/-- The number in the variable of block b. -/
def cellN (w : World) (b : Nat) : Nat := match w.cell? ⟨b, 0, none⟩ with | some v => (intOf v).toNat | none => 0
theorem cellN_blk {w : World} {b x : Nat} {T : TypeId} (h : Blk w b #[.int .i64 x] T) : cellN w b = x := by
  have := h.cell 0
  simp at this
  simp [cellN, this, intOf]


end Go.Proofs.YtjikmjhpmkakoaaGreatDoor

namespace Go.Proofs.YtjikmjhpmkakoaaGreatDoor
open Go.RowKit

/-- A slice of two numbers. -/
def Pair2 (w : World) (v : Value) (p : Nat × Nat) : Prop := ∃ g, v = .slice (some ⟨g, 0, none⟩) 2 2 ∧ g < w.heap.size ∧ w.cell? ⟨g, 0, none⟩ = some (.int .i64 p.1) ∧ w.cell? ⟨g, 1, none⟩ = some (.int .i64 p.2)
theorem Pair2.below {w w' : World} {v : Value} {p : Nat × Nat} (h : Pair2 w v p) (hb : Below w.heap.size w w') : Pair2 w' v p := by
  obtain ⟨g, h1, h2, h3, h4⟩ := h
  exact ⟨g, h1, Nat.lt_of_lt_of_le h2 hb.size, (hb.cell h2).trans h3, (hb.cell h2).trans h4⟩
theorem ValsOf.pairO {w : World} {xs : List Value} {es : List (Nat × Nat)} (h : ValsOf w xs es) {k : Nat} {e : Nat × Nat} (he : es[k]? = some e) : ∃ v, xs[k]? = some v ∧ Pair2 w v e := by
  obtain ⟨g, h1, h2, h3, h4⟩ := h.at2 he
  exact ⟨_, h1, g, rfl, h2, h3, h4⟩

set_option maxHeartbeats 1000000 in
theorem slPair_any (a b : Value) (p q : Nat × Nat) (w : World) (ha : Pair2 w a p) (hb : Pair2 w b q) :
    Calls Tryz.prog 169 #[a, b] w fun e w' => e = .returned (.bool (decide (p = q))) ∧ Below w.heap.size w w' := by
  obtain ⟨g, rfl, hg, c0, c1⟩ := ha
  obtain ⟨k, rfl, hk, d0, d1⟩ := hb
  obtain ⟨x, y⟩ := p
  obtain ⟨u, v⟩ := q
  dsimp only at c0 c1 d0 d1
  go_enter Tryz.func169, Tryz.ntmps169
  go_wp2_with fail
  go_loopw [13] (fun i wr => (∃ m : Later w, wr = m.w) ∧ ((i = .int .i64 0) ∨ (i = .int .i64 1 ∧ x = u) ∨ (i = .int .i64 2 ∧ x = u ∧ y = v))) (fun i _ => 3 - (intOf i).toNat)
  case atStart => exact ⟨⟨Later.refl _, rfl⟩, .inl rfl⟩
  case round =>
    obtain ⟨⟨m, rfl⟩, rfl | ⟨rfl, rfl⟩ | ⟨rfl, rfl, rfl⟩⟩ := hrel
    · go_wp2_with fail
      refine wp_region_later m rfl (by kernel_rfl) (by kernel_rfl) ?_
      repeat (go_big_quiet_step (fail))
      refine wpQuiet_nil ?_
      rintro _ ⟨m, rfl⟩
      cases he : ((x : Int) != (u : Int))
      · have e : x = u := by simp at he; omega
        subst e
        go_wp2_with fail
        go_roundw
        case rel => exact ⟨⟨m, rfl⟩, .inr (.inl ⟨by go_num, by trivial⟩)⟩
        case measure => decide
      · have e : ¬x = u := by simp at he; omega
        go_wp2_with fail
        go_ret
        exact ⟨by simp [e], m.below⟩
    · go_wp2_with fail
      refine wp_region_later m rfl (by kernel_rfl) (by kernel_rfl) ?_
      repeat (go_big_quiet_step (fail))
      refine wpQuiet_nil ?_
      rintro _ ⟨m, rfl⟩
      cases he : ((y : Int) != (v : Int))
      · have e : y = v := by simp at he; omega
        subst e
        go_wp2_with fail
        go_roundw
        case rel => exact ⟨⟨m, rfl⟩, .inr (.inr ⟨by go_num, by trivial, by trivial⟩)⟩
        case measure => decide
      · have e : ¬y = v := by simp at he; omega
        go_wp2_with fail
        go_ret
        exact ⟨by simp [e], m.below⟩
    · go_wp2_with fail
      go_ret
      exact ⟨by simp, m.below⟩

set_option maxHeartbeats 1000000 in
theorem indexFuncV_any (xs : List Value) (K base : Nat) (caps : Array Value) (p : Nat → Bool) (ao : Option Addr) (c : Nat) (w : World) (hx : OwnV w base (.slice ao xs.length c) xs) (hl : xs.length ≤ 1048576)
    (hE : ∀ args w, Sem.run Tryz.prog (callFunc K args) w = .ok (.enter K args) w) (hK : ∀ (m : Later w) (j : Nat) (v : Value), xs[j]? = some v → Calls Tryz.prog K (#[v] ++ caps) m.w fun e w' => e = .returned (.bool (p j)) ∧ Below m.w.heap.size m.w w') :
    Calls Tryz.prog 167 #[.slice ao xs.length c, .func (.func K) #[] caps] w fun e w' => e = .returned (.int .i64 (idxV (firstB p xs.length))) ∧ Below w.heap.size w w' := by
  have HhK := Lib.hid hK
  clear hK
  go_enter Tryz.func167, Tryz.ntmps167
  go_wp2_with fail
  go_loopw [8] (fun i wr => (∃ m : Later w, wr = m.w) ∧ ∃ k : Nat, k ≤ xs.length ∧ i = .int .i64 k ∧ ∀ j, j < k → p j = false) (fun i _ => xs.length - (intOf i).toNat)
  case atStart => exact ⟨⟨Later.refl _, rfl⟩, 0, by omega, rfl, fun j h => by omega⟩
  case round =>
    obtain ⟨⟨m, rfl⟩, k, hk, rfl, hP⟩ := hrel
    have HhP := Lib.hid hP
    clear hP
    by_cases hlt : k < xs.length
    · obtain ⟨b, rfl, hb, hbl, hc⟩ := hx.cells (by omega)
      obtain ⟨v, hv⟩ : ∃ v, xs[k]? = some v := ⟨_, List.getElem?_eq_getElem hlt⟩
      have hkc := hc k v hv
      have hKk := HhK.out m k v hv
      clear hc hv
      have HhKk := Lib.hid hKk
      clear hKk
      go_wp2_with fail
      refine HhKk.out.mono ?_
      rintro e w2 ⟨rfl, hB2⟩
      obtain ⟨m, rfl⟩ : ∃ m2 : Later w, m2.w = w2 := ⟨m.on hB2, rfl⟩
      clear hB2
      cases he : p k
      all_goals
        go_wp2_with fail
      · go_roundw
        case rel => exact ⟨⟨m, rfl⟩, k + 1, by omega, by go_num, all_succ HhP.out he⟩
        case measure => simp [intOf]; omega
      · go_ret
        exact ⟨retI (idxV_first hlt HhP.out he), m.below⟩
    · go_wp2_with fail
      go_ret
      exact ⟨retI (idxV_never (fun j h => HhP.out j (by omega))), m.below⟩

set_option maxHeartbeats 1000000 in
theorem implIndexC_any (v : Value) (p q : Nat × Nat) (pB : Nat) (vq : Value) (w : World) (hv : Pair2 w v p) (hq : Pair2 w vq q) (hb : pB < w.heap.size) (hc : w.cell? ⟨pB, 0, none⟩ = some vq) :
    Calls Tryz.prog 168 #[v, .pointer (some ⟨pB, 0, none⟩)] w fun e w' => e = .returned (.bool (decide (p = q))) ∧ Below w.heap.size w w' := by
  have hS := slPair_any v vq p q w hv hq
  have Hhv := Lib.hid hv
  clear hv
  have Hhq := Lib.hid hq
  clear hq
  go_enter Tryz.func168, Tryz.ntmps168
  go_wp2_with fail
  refine hS.mono ?_
  rintro e w' ⟨rfl, hB⟩
  go_wp2_with fail
  go_ret
  exact ⟨rfl, hB⟩

set_option maxRecDepth 100000 in
set_option maxHeartbeats 1000000 in
theorem implIndex_any (es : List (Nat × Nat)) (q : Nat × Nat) (vq : Value) (xs : List Value) (ao : Option Addr) (base c : Nat) (w : World) (hO : OwnV w base (.slice ao xs.length c) xs) (hV : ValsOf w xs es) (hl : xs.length ≤ 1048576) (hq : Pair2 w vq q) :
    Calls Tryz.prog 153 #[.slice ao xs.length c, vq] w fun e w' => e = .returned (.int .i64 (fdV es q)) ∧ Below w.heap.size w w' := by
  have hn := hV.1
  have hq2 := hq
  obtain ⟨gq, rfl, -, -, -⟩ := hq2
  go_enter Tryz.func153, Tryz.ntmps153
  go_wp2_with fail
  generalize hW : World.alloc _ _ = W1
  obtain ⟨hB, -, k0⟩ := alloc1 hW
  have hb0 := k0.lt
  have hc0 := k0.cell 0
  simp at hc0
  have hF := indexFuncV_any xs 168 base #[.pointer (some ⟨w.heap.size, 0, none⟩)] (fun j => decide (es[j]? = some q)) ao c W1 (hO.below hB) hl (fun _ _ => rfl) (fun m j v hj => by
    obtain ⟨p, hp⟩ : ∃ p, es[j]? = some p := ⟨_, List.getElem?_eq_getElem (by rw [← hn]; exact (List.getElem?_eq_some_iff.1 hj).1)⟩
    obtain ⟨v2, h1, h2⟩ := (hV.below (below_more hB m.below)).pairO hp
    rw [hj] at h1
    cases h1
    have h3 := implIndexC_any v p q w.heap.size _ m.w h2 (hq.below (below_more hB m.below)) (Nat.lt_of_lt_of_le hb0 m.size) ((m.cell _ 0 hb0).trans hc0)
    rw [hp]
    refine h3.mono fun e w' h => ⟨h.1.trans (by simp), h.2⟩)
  have HhO := Lib.hid hO
  clear hO
  have HhV := Lib.hid hV
  clear hV
  have Hhq := Lib.hid hq
  clear hq
  have HB := Lib.hid hB
  clear hB
  have hidx : ∀ i : Int, fdV es q = idxV (firstB (fun j => decide (es[j]? = some q)) es.length) := fun _ => rfl
  rw [hn] at hF
  have e0 := (hidx 0).symm
  rw [e0] at hF
  clear hidx e0
  go_wp2_with fail
  rw [hn]
  refine hF.mono ?_
  rintro e w' ⟨rfl, hB2⟩
  go_wp2_with fail
  go_ret
  exact ⟨rfl, HB.out.trans (hB2.mono HB.out.size)⟩

end Go.Proofs.YtjikmjhpmkakoaaGreatDoor

namespace Go.Proofs.YtjikmjhpmkakoaaGreatDoor
open Go.RowKit

end Go.Proofs.YtjikmjhpmkakoaaGreatDoor
