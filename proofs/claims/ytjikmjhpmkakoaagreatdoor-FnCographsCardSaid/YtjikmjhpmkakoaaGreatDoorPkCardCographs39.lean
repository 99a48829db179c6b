/-
  The forcing of arcs: it goes back and turns round; in a hole of five vertices each arc forces its opposite. No conditions.
  What the search for an orientation keeps: the holes of five vertices, as long as it does not fail. No conditions.
  What falls from round to round of the search for an orientation: the sum of the rows that are left. No conditions.
  The walk of the reference's OrientationOf. For at most 2^20 rows.
  Plain: an arc and all that it forces are taken out of a graph without a path of four vertices, edge by edge. No conditions.
-/
import Derived.Test.YtjikmjhpmkakoaaGreatDoorPkCardCographs38
import Derived.Test.YtjikmjhpmkakoaaGreatDoorPkCardCographs16
import Derived.Test.YtjikmjhpmkakoaaGreatDoorPkCardCographs13
import Derived.Test.YtjikmjhpmkakoaaGreatDoorPkCardCographs29
import Derived.Test.YtjikmjhpmkakoaaGreatDoorPkCardCographs10
import Derived.Deep.CutRange
import Derived.Test.YtjikmjhpmkakoaaGreatDoorPkCardCographs17
namespace Go.Proofs.YtjikmjhpmkakoaaGreatDoor

theorem C5.rot {rs : List Int} {a b c d e : Nat} (g : VG rs) (h : C5 rs a b c d e) : C5 rs b c d e a :=
  ⟨h.bc, h.cd, h.de, h.ea, h.ab, h.bd, h.be, h.ce, (ad_symm g _ _).trans h.ac, (ad_symm g _ _).trans h.a_d⟩
/-- Each arc of the hole forces its opposite. -/
theorem C5.turn {rs : List Int} {a b c d e : Nat} (g : VG rs) (h : C5 rs a b c d e) : Fc rs (a, b) (b, a) := by
  have H : ∀ i j : Fin 5, i ≠ j → v5 a b c d e i ≠ v5 a b c d e j := fun i j hne he => hne (h.inj g he)
  have h02 : a ≠ c := H 0 2 (by decide)
  have h13 : b ≠ d := H 1 3 (by decide)
  have h24 : c ≠ e := H 2 4 (by decide)
  have h30 : d ≠ a := H 3 0 (by decide)
  have h41 : e ≠ b := H 4 1 (by decide)
  have s1 : Fc rs (a, b) (c, b) := .one (nx_mk g ((ad_symm g _ _).trans h.bc) (.inr ⟨rfl, h02.symm, (ad_symm g _ _).trans h.ac⟩))
  have s2 : Fc rs (c, b) (c, d) := .one (nx_mk g h.cd (.inl ⟨rfl, h13.symm, (ad_symm g _ _).trans h.bd⟩))
  have s3 : Fc rs (c, d) (e, d) := .one (nx_mk g ((ad_symm g _ _).trans h.de) (.inr ⟨rfl, h24.symm, (ad_symm g _ _).trans h.ce⟩))
  have s4 : Fc rs (e, d) (e, a) := .one (nx_mk g h.ea (.inl ⟨rfl, h30.symm, h.a_d⟩))
  have s5 : Fc rs (e, a) (b, a) := .one (nx_mk g ((ad_symm g _ _).trans h.ab) (.inr ⟨rfl, h41.symm, h.be⟩))
  exact s1.trans (s2.trans (s3.trans (s4.trans s5)))
theorem C5.turn5 {rs : List Int} {a b c d e : Nat} (g : VG rs) (h : C5 rs a b c d e) {p : Nat × Nat} (hp : p ∈ [(a, b), (b, c), (c, d), (d, e), (e, a)]) : Fc rs p (rev2 p) := by
  have h1 := h.rot g
  have h2 := h1.rot g
  have h3 := h2.rot g
  have h4 := h3.rot g
  simp only [List.mem_cons] at hp
  rcases hp with rfl | rfl | rfl | rfl | rfl | hp
  · exact h.turn g
  · exact h1.turn g
  · exact h2.turn g
  · exact h3.turn g
  · exact h4.turn g
  · cases hp
/-- A forced list that holds an arc of the hole, or its opposite, holds the opposite of its first arc. -/
theorem forced_c5 {rs : List Int} {a b c d e : Nat} (g : VG rs) (h : C5 rs a b c d e) {s : Nat × Nat} {es : List (Nat × Nat)} (hs : ad rs s.1 s.2 = true) (hF : Fs rs s es) (hc : ∀ p ∈ es, ∀ q ∈ nxV rs p.1 p.2, q ∈ es)
    {p : Nat × Nat} (hp : p ∈ [(a, b), (b, c), (c, d), (d, e), (e, a)]) (hm : p ∈ es ∨ rev2 p ∈ es) : rev2 s ∈ es := by
  have hin : p ∈ es := by
    rcases hm with hm | hm
    · exact hm
    · have h1 := h.turn5 g hp
      have h2 : Fc rs (rev2 p) p := h1.rev g
      exact Fc.mem hF.seed hc ((hF.fc _ hm).trans h2)
  have h1 := hF.fc p hin
  exact Fc.mem hF.seed hc (h1.trans ((h.turn5 g hp).trans ((h1.back g hs).rev g)))

end Go.Proofs.YtjikmjhpmkakoaaGreatDoor

namespace Go.Proofs.YtjikmjhpmkakoaaGreatDoor

/-- What is left still bears each hole of five vertices. -/
def KeepC5 (rs left : List Int) : Prop := ∀ a b c d e, C5 rs a b c d e → C5 left a b c d e
theorem KeepC5.refl (rs : List Int) : KeepC5 rs rs := fun _ _ _ _ _ h => h
theorem remE_ad {rs : List Int} {v w i j : Nat} (hi : i < rs.length) (hj : j < rs.length) : ad (remE rs v w) i j = (ad rs i j && !isE v w i j) := remE_eb hi hj
theorem isE_no {v w i j : Nat} (h1 : (i, j) ≠ (v, w)) (h2 : rev2 (i, j) ≠ (v, w)) : isE v w i j = false := by
  rw [Bool.eq_false_iff]
  intro h
  rcases isE_true.1 h with ⟨rfl, rfl⟩ | ⟨rfl, rfl⟩
  · exact h1 rfl
  · exact h2 rfl
theorem remE_C5 {rs : List Int} (g : VG rs) {v w a b c d e : Nat} (h : C5 rs a b c d e) (hn : ∀ p ∈ [(a, b), (b, c), (c, d), (d, e), (e, a)], p ≠ (v, w) ∧ rev2 p ≠ (v, w)) : C5 (remE rs v w) a b c d e := by
  have ha := h.lt g 0
  have hb := h.lt g 1
  have hc := h.lt g 2
  have hd := h.lt g 3
  have he := h.lt g 4
  have yes : ∀ i j, i < rs.length → j < rs.length → ad rs i j = true → ((i, j) ≠ (v, w) ∧ rev2 (i, j) ≠ (v, w)) → ad (remE rs v w) i j = true := fun i j hi hj h1 h2 => by
    rw [remE_ad hi hj, h1, isE_no h2.1 h2.2]; rfl
  have no : ∀ i j, i < rs.length → j < rs.length → ad rs i j = false → ad (remE rs v w) i j = false := fun i j hi hj h1 => by
    rw [remE_ad hi hj, h1]; rfl
  exact ⟨yes a b ha hb h.ab (hn _ (by simp)), yes b c hb hc h.bc (hn _ (by simp)), yes c d hc hd h.cd (hn _ (by simp)), yes d e hd he h.de (hn _ (by simp)), yes e a he ha h.ea (hn _ (by simp)),
    no a c ha hc h.ac, no a d ha hd h.a_d, no b d hb hd h.bd, no b e hb he h.be, no c e hc he h.ce⟩
/-- One arc that was forced is taken away. -/
theorem KeepC5.step {rs left cur : List Int} (gl : VG left) (gc : VG cur) (h : KeepC5 rs left) (hc : KeepC5 rs cur) {s p : Nat × Nat} {es : List (Nat × Nat)} (hs : ad left s.1 s.2 = true) (hF : Fs left s es) (hC : ∀ p ∈ es, ∀ q ∈ nxV left p.1 p.2, q ∈ es)
    (hno : rev2 s ∉ es) (hp : p ∈ es) : KeepC5 rs (remE cur p.1 p.2) := fun a b c d e h5 =>
  remE_C5 gc (hc _ _ _ _ _ h5) fun q hq => ⟨fun e => hno (forced_c5 gl (h _ _ _ _ _ h5) hs hF hC hq (.inl (by rw [e]; exact hp))), fun e => hno (forced_c5 gl (h _ _ _ _ _ h5) hs hF hC hq (.inr (by rw [e]; exact hp)))⟩
/-- Where no edge is left there was no hole. -/
theorem KeepC5.none {rs left : List Int} (g : VG rs) (gl : VG left) (h : KeepC5 rs left) (he : edgesTo left left.length = []) : ¬c5 rs := fun hc => by
  obtain ⟨a, b, c, d, e, h5⟩ := c5_get g hc
  have h6 := (h _ _ _ _ _ h5).ab
  obtain ⟨ha, hb⟩ := ad_lt gl h6
  have hne : a ≠ b := fun e => by rw [e, ad_irr gl] at h6; cases h6
  have key : ∀ i j, i < left.length → j < left.length → i < j → ad left i j = true → False := fun i j hi hj hij hh => by
    have := mem_edgesTo (rs := left) (e := (i, j)) (n := left.length) |>.2 ⟨hi, hij, by show j < _; omega, hh⟩
    rw [he] at this
    cases this
  rcases Nat.lt_or_ge a b with h1 | h1
  · exact key a b ha hb h1 h6
  · exact key b a hb ha (by omega) (by rw [ad_symm gl]; exact h6)
/-- The first edge that is left is one. -/
theorem edge_head {left : List Int} (_gl : VG left) {p : Nat × Nat} (h : p ∈ edgesTo left left.length) : ad left p.1 p.2 = true := (mem_edgesTo.1 h).2.2.2

end Go.Proofs.YtjikmjhpmkakoaaGreatDoor

namespace Go.Proofs.YtjikmjhpmkakoaaGreatDoor
open Go.RowKit

def sumTo (f : Nat → Nat) : Nat → Nat
  | 0 => 0
  | k + 1 => sumTo f k + f k
theorem sumTo_le {f h : Nat → Nat} : ∀ k, (∀ i, i < k → f i ≤ h i) → sumTo f k ≤ sumTo h k
  | 0, _ => Nat.le_refl _
  | k + 1, hh => by
    have ih := sumTo_le (f := f) (h := h) k (fun i hi => hh i (by omega))
    have := hh k (by omega)
    show sumTo f k + f k ≤ sumTo h k + h k
    omega
theorem sumTo_lt {f h : Nat → Nat} : ∀ k, (∀ i, i < k → f i ≤ h i) → (∃ i, i < k ∧ f i < h i) → sumTo f k < sumTo h k
  | 0, _, h => by obtain ⟨i, h1, -⟩ := h; omega
  | k + 1, hh, hx => by
    obtain ⟨i, h1, h2⟩ := hx
    show sumTo f k + f k < sumTo h k + h k
    have hk := hh k (by omega)
    by_cases e : i = k
    · subst e
      have := sumTo_le (f := f) (h := h) i (fun j hj => hh j (by omega))
      omega
    · have := sumTo_lt k (fun j hj => hh j (by omega)) ⟨i, by omega, h2⟩
      omega
theorem sumTo_congr {f h : Nat → Nat} : ∀ k, (∀ i, i < k → f i = h i) → sumTo f k = sumTo h k
  | 0, _ => rfl
  | k + 1, hh => by
    show sumTo f k + f k = sumTo h k + h k
    rw [sumTo_congr k (fun i hi => hh i (by omega)), hh k (by omega)]
def sumG (rs : List Int) : Nat := sumTo (gn rs) rs.length
theorem remE_gn {rs : List Int} {v w i : Nat} (hi : i < rs.length) : gn (remE rs v w) i ≤ gn rs i := by
  have hs : subN (gn (remE rs v w) i) (gn rs i) := fun j hj => by
    unfold remE at hj
    rw [rowsOf_gn hi, accB_bit] at hj
    simp only [Bool.and_eq_true] at hj
    exact hj.2.1
  exact hs.le
theorem sumG_le (rs : List Int) (v w : Nat) : sumG (remE rs v w) ≤ sumG rs := by
  unfold sumG
  rw [remE_len]
  exact sumTo_le _ fun i hi => remE_gn hi
theorem sumG_lt {rs : List Int} {v w : Nat} (hv : v < rs.length) (hw : w < rs.length) (h : eb rs v w = true) : sumG (remE rs v w) < sumG rs := by
  unfold sumG
  rw [remE_len]
  refine sumTo_lt _ (fun i hi => remE_gn hi) ⟨v, hv, ?_⟩
  refine Nat.lt_of_le_of_ne (remE_gn hv) fun e => ?_
  have h1 : eb (remE rs v w) v w = eb rs v w := by unfold eb; rw [e]
  rw [remE_eb hv hw, h] at h1
  simp [isE_true.2 (.inl ⟨rfl, rfl⟩)] at h1

/-- The number in cell k of block b. -/
def cellAt (w : World) (b k : Nat) : Nat := match w.cell? ⟨b, k, none⟩ with | some v => (intOf v).toNat | none => 0
/-- The sum of the first n cells of the row that the struct in block s points to by its second cell. -/
def rowSum (w : World) (s n : Nat) : Nat := match w.cell? ⟨s, 1, none⟩ with | some (.slice (some ⟨lb, _, _⟩) _ _) => sumTo (cellAt w lb) n | _ => 0
theorem rowSum_eq {w : World} {s lb cap c : Nat} {x : Value} {rs : List Int} {T : TypeId} (hS : Blk w s #[x, .slice (some ⟨lb, 0, none⟩) rs.length c] T) (hR : RowAt w lb cap rs) : rowSum w s rs.length = sumG rs := by
  have h1 := hS.cell 1
  simp at h1
  unfold rowSum
  rw [h1]
  refine sumTo_congr _ fun i hi => ?_
  unfold cellAt
  rw [hR.cell i hi]
  rfl

end Go.Proofs.YtjikmjhpmkakoaaGreatDoor

namespace Go.Proofs.YtjikmjhpmkakoaaGreatDoor
open Go.RowKit

/-- The memory at the head of the outer loop: the struct o, its row, the result's cell, the struct of what is left and its row. -/
structure OrSt (rs : List Int) (W w : World) (oB tB rB sB : Nat) (left : List Int) : Prop where
  below : Below W.heap.size W w
  o : Blk w oB #[.slice (some ⟨tB, 0, none⟩) rs.length rs.length] 123
  r : Blk w rB #[.slice none 0 0] 123
  t : ∃ ys : List Int, ys.length = rs.length ∧ Blk w tB (intRow ys) 3
  s : ∃ lb cap, lb ≠ tB ∧ Blk w sB #[.int .i64 rs.length, .slice (some ⟨lb, 0, none⟩) rs.length cap] 26 ∧ RowAt w lb cap left
  vg : VG left
  len : left.length = rs.length
  keep : KeepC5 rs left
theorem OrSt.later {rs left : List Int} {W w w' : World} {oB tB rB sB : Nat} (h : OrSt rs W w oB tB rB sB left) (hb : Below w.heap.size w w') : OrSt rs W w' oB tB rB sB left where
  below := below_more h.below hb
  o := h.o.below hb h.o.lt
  r := h.r.below hb h.r.lt
  t := by obtain ⟨ys, h1, h2⟩ := h.t; exact ⟨ys, h1, h2.below hb h2.lt⟩
  s := by obtain ⟨lb, cap, h1, h2, h3⟩ := h.s; exact ⟨lb, cap, h1, h2.below hb h2.lt, h3.below hb⟩
  vg := h.vg
  len := h.len
  keep := h.keep

/-- Lists in fresh blocks are let alone by a store below. -/
theorem OwnV.putLow {w : World} {base : Nat} {v : Value} {xs : List Value} (h : OwnV w base v xs) {a : Addr} (ha : a.block < base) (u : Value) : OwnV (w.setCell a u) base v xs := by
  obtain ⟨h0, h1 | ⟨g, cap, cur, hv, hg, hh, r⟩⟩ := h
  · exact ⟨h0, .inl h1⟩
  · exact ⟨h0, .inr ⟨g, cap, cur, hv, hg, by rw [Below.heap_setCell _ _ _ _ (by omega)]; exact hh, r⟩⟩
theorem ValsOf.putLow {w : World} {xs : List Value} {es : List (Nat × Nat)} {B : Nat} (h : ValsOf w xs es) (hF : FreshV B xs) {a : Addr} (ha : a.block < B) (u : Value) : ValsOf (w.setCell a u) xs es :=
  ⟨h.1, fun k e he => by
    obtain ⟨g, h1, h2⟩ := h.2 k e he
    obtain ⟨g9, n9, c9, h9, e9⟩ := hF _ (List.mem_of_getElem? h1)
    simp only [Value.slice.injEq, Option.some.injEq, Addr.mk.injEq] at e9
    exact ⟨g, h1, by rw [Below.heap_setCell _ _ _ _ (by omega)]; exact h2⟩⟩
/-- A store into the row of the orientation. -/
theorem OrSt.putT {rs left : List Int} {W w : World} {oB tB rB sB : Nat} (h : OrSt rs W w oB tB rB sB left) (hW : W.heap.size ≤ tB) (ho : oB ≠ tB) (hr : rB ≠ tB) (hs : sB ≠ tB) (k : Nat) (x : Int) : OrSt rs W (w.setCell ⟨tB, k, none⟩ (.int .i64 x)) oB tB rB sB left where
  below := h.below.setCell hW _
  o := h.o.other _ ho
  r := h.r.other _ hr
  t := by
    obtain ⟨ys, h1, h2⟩ := h.t
    have := h2.store k (.int .i64 x)
    rw [intRow_set] at this
    exact ⟨ys.set k x, by simpa using h1, this⟩
  s := by obtain ⟨lb, cap, h1, h2, h3⟩ := h.s; exact ⟨lb, cap, h1, h2.other _ hs, h3.otherCell h1⟩
  vg := h.vg
  len := h.len
  keep := h.keep
end Go.Proofs.YtjikmjhpmkakoaaGreatDoor

namespace Go.Proofs.YtjikmjhpmkakoaaGreatDoor
open Go.RowKit

/-- The graph when the first t arcs have been taken out. -/
structure RmTo (left : List Int) (x y : Nat) (es : List (Nat × Nat)) (t : Nat) (cur : List Int) : Prop where
  vg : VG cur
  len : cur.length = left.length
  ex : ∀ a b, a < left.length → b < left.length → (eb cur a b = true ↔ eb left a b = true ∧ ∀ j, j < t → es[j]? ≠ some (a, b) ∧ es[j]? ≠ some (b, a))
  or : eb cur x y = true ∨ sumG cur < sumG left
  le : sumG cur ≤ sumG left
theorem RmTo.zero {left : List Int} {x y : Nat} {es : List (Nat × Nat)} (g : VG left) (h : eb left x y = true) : RmTo left x y es 0 left :=
  ⟨g, rfl, fun a b _ _ => ⟨fun h => ⟨h, fun j hj => absurd hj (Nat.not_lt_zero _)⟩, fun h => h.1⟩, .inl h, Nat.le_refl _⟩
theorem RmTo.keep {left cur : List Int} {x y t u v : Nat} {es : List (Nat × Nat)} (r : RmTo left x y es t cur) (hu : u < left.length) (hv : v < left.length) (hp : es[t]? = some (u, v)) (h : eb cur u v = false) : RmTo left x y es (t + 1) cur := by
  refine ⟨r.vg, r.len, fun a b ha hb => ⟨fun h2 => ?_, fun h2 => (r.ex a b ha hb).2 ⟨h2.1, fun j hj => h2.2 j (by omega)⟩⟩, r.or, r.le⟩
  have h3 := (r.ex a b ha hb).1 h2
  refine ⟨h3.1, fun j hj => ?_⟩
  by_cases e : j = t
  · subst e
    rw [hp]
    refine ⟨fun e => ?_, fun e => ?_⟩
    · obtain ⟨rfl, rfl⟩ : u = a ∧ v = b := by simpa using e
      rw [h] at h2; cases h2
    · obtain ⟨rfl, rfl⟩ : u = b ∧ v = a := by simpa using e
      rw [eb_sym r.vg (by rw [r.len]; exact hv) (by rw [r.len]; exact hu), h] at h2; cases h2
  · exact h3.2 j (by omega)
theorem RmTo.rem {left cur : List Int} {x y t u v : Nat} {es : List (Nat × Nat)} (r : RmTo left x y es t cur) (hx : x < left.length) (hy : y < left.length) (hu : u < left.length) (hv : v < left.length) (hp : es[t]? = some (u, v)) (h : eb cur u v = true) : RmTo left x y es (t + 1) (remE cur u v) := by
  have h1 := sumG_le cur u v
  have h2 := sumG_lt (rs := cur) (v := u) (w := v) (by rw [r.len]; exact hu) (by rw [r.len]; exact hv) h
  have hle := r.le
  refine ⟨remE_VG r.vg, (remE_len _ _ _).trans r.len, fun a b ha hb => ?_, .inr (by omega), by omega⟩
  rw [remE_eb (by rw [r.len]; exact ha) (by rw [r.len]; exact hb)]
  have h3 := r.ex a b ha hb
  constructor
  · intro h4
    rw [Bool.and_eq_true, h3] at h4
    refine ⟨h4.1.1, fun j hj => ?_⟩
    by_cases e : j = t
    · subst e
      rw [hp]
      have h5 : isE u v a b = false := by simpa using h4.2
      refine ⟨fun e => ?_, fun e => ?_⟩
      · obtain ⟨rfl, rfl⟩ : u = a ∧ v = b := by simpa using e
        rw [isE_true.2 (.inl ⟨rfl, rfl⟩)] at h5; cases h5
      · obtain ⟨rfl, rfl⟩ : u = b ∧ v = a := by simpa using e
        rw [isE_true.2 (.inr ⟨rfl, rfl⟩)] at h5; cases h5
    · exact h4.1.2 j (by omega)
  · rintro ⟨h4, h5⟩
    rw [Bool.and_eq_true, h3]
    refine ⟨⟨h4, fun j hj => h5 j (by omega)⟩, ?_⟩
    have h6 := h5 t (by omega)
    rw [hp] at h6
    have h7 : isE u v a b = false := by
      rw [Bool.eq_false_iff]
      intro h8
      rcases isE_true.1 h8 with ⟨rfl, rfl⟩ | ⟨rfl, rfl⟩
      · exact h6.1 rfl
      · exact h6.2 rfl
    rw [h7]; rfl
theorem RmTo.done {left cur : List Int} {x y : Nat} {es : List (Nat × Nat)} (g : VG left) (hp : noP4 left) (hxy : ad left x y = true) (hs : Fs left (x, y) es) (hc : ∀ p ∈ es, ∀ q ∈ nxV left p.1 p.2, q ∈ es) (r : RmTo left x y es es.length cur) : noP4 cur ∧ sumG cur < sumG left := by
  have hmem : ∀ p, p ∈ es ↔ ∃ j : Nat, j < es.length ∧ es[j]? = some p := fun p => by
    rw [List.mem_iff_getElem]
    exact ⟨fun ⟨j, hj, e⟩ => ⟨j, hj, by rw [List.getElem?_eq_getElem hj, e]⟩, fun ⟨j, hj, e⟩ => ⟨j, hj, by rw [List.getElem?_eq_getElem hj] at e; simpa using e⟩⟩
  constructor
  · refine tro_noP4 g r.vg hp hxy (fun p => ⟨hs.fc p, fun h => h.mem hs.seed hc⟩) fun u v => ?_
    by_cases hu : u < left.length
    · by_cases hv : v < left.length
      · have h := r.ex u v hu hv
        show eb cur u v = true ↔ _
        rw [h]
        refine and_congr_right fun _ => ⟨fun h2 => ⟨fun h3 => ?_, fun h3 => ?_⟩, fun h2 j hj => ⟨fun e => h2.1 ((hmem _).2 ⟨j, hj, e⟩), fun e => h2.2 ((hmem _).2 ⟨j, hj, e⟩)⟩⟩
        · obtain ⟨j, hj, e⟩ := (hmem _).1 h3
          exact (h2 j hj).1 e
        · obtain ⟨j, hj, e⟩ := (hmem _).1 h3
          exact (h2 j hj).2 e
      · exact ⟨fun h => absurd (ad_lt r.vg h).2 (by rw [r.len]; exact hv), fun h => absurd (ad_lt g h.1).2 hv⟩
    · exact ⟨fun h => absurd (ad_lt r.vg h).1 (by rw [r.len]; exact hu), fun h => absurd (ad_lt g h.1).1 hu⟩
  · obtain ⟨hx, hy⟩ := ad_lt g hxy
    rcases r.or with h | h
    · obtain ⟨j, hj, e⟩ := (hmem _).1 hs.seed
      exact absurd e (((r.ex x y hx hy).1 h).2 j hj).1
    · exact h

/-- The numbers of a row are sets of n vertices. -/
def SmallR (n : Nat) (ys : List Int) : Prop := ys.length = n ∧ ∀ v, v < n → ∃ y : Nat, gi ys v = (y : Int) ∧ y < 2 ^ n
theorem SmallR.zero (n : Nat) : SmallR n (List.replicate n 0) := ⟨by simp, fun v hv => ⟨0, by simp [gi, hv], Nat.two_pow_pos n⟩⟩
theorem SmallR.put {n : Nat} {ys : List Int} (h : SmallR n ys) (h7 : n ≤ 7) {u v : Nat} (hu : u < n) (hv : v < n) : SmallR n (ys.set u (bits .or .i64 (gi ys u) (pwN v))) := by
  refine ⟨by rw [List.length_set]; exact h.1, fun k hk => ?_⟩
  obtain ⟨y, h1, h2⟩ := h.2 u hu
  by_cases e : u = k
  · subst e
    have hp : 2 ^ v < 2 ^ n := Nat.pow_lt_pow_right (by decide) hv
    have hn : 2 ^ n ≤ 2 ^ 7 := Nat.pow_le_pow_right (by decide) h7
    refine ⟨y ||| 2 ^ v, ?_, Nat.or_lt_two_pow h2 hp⟩
    have hl := h.1
    rw [h1, pwN_small v (by omega), bits_or_nat _ _ (by omega) (by omega)]
    simp [gi, hl, hu]
  · obtain ⟨z, h3, h4⟩ := h.2 k hk
    refine ⟨z, ?_, h4⟩
    rw [← h3]
    simp [gi, e]

theorem OwnV.onlyR {w w' : World} {base : Nat} {v : Value} {xs : List Value} {X : Nat → Prop} (h : OwnV w base v xs) (k : Only X w.heap.size w w') (hX : ∀ b, X b → b < base) : OwnV w' base v xs := by
  obtain ⟨h0, h1 | ⟨g, cap, cur, hv, hg, hh, r⟩⟩ := h
  · exact ⟨h0, .inl h1⟩
  · exact ⟨h0, .inr ⟨g, cap, cur, hv, hg, by rw [k.block g (Array.getElem?_eq_some_iff.1 hh).1 (fun e => by have := hX g e; omega)]; exact hh, r⟩⟩
theorem ValsOf.onlyF {w w' : World} {xs : List Value} {es : List (Nat × Nat)} {B : Nat} {X : Nat → Prop} (h : ValsOf w xs es) (hF : FreshV B xs) (hO : Only X w.heap.size w w') (hX : ∀ b, X b → b < B) : ValsOf w' xs es :=
  ⟨h.1, fun k e he => by
    obtain ⟨g, h1, h2⟩ := h.2 k e he
    obtain ⟨g9, n9, c9, h9, e9⟩ := hF _ (List.mem_of_getElem? h1)
    simp only [Value.slice.injEq, Option.some.injEq, Addr.mk.injEq] at e9
    have k0 : Blk w g #[.int .i64 e.1, .int .i64 e.2] 3 := h2
    exact ⟨g, h1, hO.blk k0 k0.lt fun hx => by have := hX g hx; omega⟩⟩
/-- The memory of the program's OrientationOf: the struct o, its row, the result's cell, the struct of what is left and its row. -/
structure OwSt (n : Nat) (W w : World) (oB tB rB sB lb lcap : Nat) (ys left : List Int) : Prop where
  below : Below W.heap.size W w
  o : Blk w oB #[.slice (some ⟨tB, 0, none⟩) n n] 123
  r : Blk w rB #[.slice none 0 0] 123
  t : Blk w tB (intRow ys) 3
  s : Blk w sB #[.int .i64 n, .slice (some ⟨lb, 0, none⟩) n lcap] 26
  row : RowAt w lb lcap left
theorem OwSt.later {n : Nat} {W w w' : World} {oB tB rB sB lb lcap : Nat} {ys left : List Int} (h : OwSt n W w oB tB rB sB lb lcap ys left) (hb : Below w.heap.size w w') : OwSt n W w' oB tB rB sB lb lcap ys left :=
  ⟨below_more h.below hb, h.o.below hb h.o.lt, h.r.below hb h.r.lt, h.t.below hb h.t.lt, h.s.below hb h.s.lt, h.row.below hb⟩
theorem OwSt.putT {n : Nat} {W w : World} {oB tB rB sB lb lcap : Nat} {ys left : List Int} (h : OwSt n W w oB tB rB sB lb lcap ys left) (hW : W.heap.size ≤ tB) (ho : oB ≠ tB) (hr : rB ≠ tB) (hs : sB ≠ tB) (hl : lb ≠ tB) (k : Nat) (x : Int) : OwSt n W (w.setCell ⟨tB, k, none⟩ (.int .i64 x)) oB tB rB sB lb lcap (ys.set k x) left where
  below := h.below.setCell hW _
  o := h.o.other _ ho
  r := h.r.other _ hr
  t := by
    have := h.t.store k (.int .i64 x)
    rwa [intRow_set] at this
  s := h.s.other _ hs
  row := h.row.otherCell hl
theorem OwSt.flip {n : Nat} {W w w' : World} {oB tB rB sB lb lcap : Nat} {ys left left' : List Int} (h : OwSt n W w oB tB rB sB lb lcap ys left) (hW : W.heap.size ≤ lb) (ho : oB ≠ lb) (hr : rB ≠ lb) (hs : sB ≠ lb) (ht : tB ≠ lb) (hO : Only (fun x => x = lb) w.heap.size w w') (hR : RowAt w' lb lcap left') : OwSt n W w' oB tB rB sB lb lcap ys left' where
  below := h.below.trans (hO.below h.below.size fun b hb e => by have e2 : b = lb := e; omega)
  o := hO.blk h.o h.o.lt ho
  r := hO.blk h.r h.r.lt hr
  t := hO.blk h.t h.t.lt ht
  s := hO.blk h.s h.s.lt hs
  row := hR
/-- Is the bit there? -/
theorem has_eb {cur : List Int} (g : VG cur) {u v : Nat} (hu : u < cur.length) (hv : v ≤ 63) (w : World) : Calls Tryz.prog 60 #[.int .i64 (gi cur u), .int .i64 v] w fun e w' => e = .returned (.bool (eb cur u v)) ∧ w = w' := by
  have h := has_any (gi cur u) v (by omega) (by omega) w
  rw [g.row u hu, Int.toNat_natCast, hasN_nat] at h
  rw [g.row u hu]
  exact h

end Go.Proofs.YtjikmjhpmkakoaaGreatDoor
