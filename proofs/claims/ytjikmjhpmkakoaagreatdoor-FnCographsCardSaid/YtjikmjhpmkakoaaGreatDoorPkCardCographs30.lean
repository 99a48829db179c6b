/-
  forces of the program: the arcs that an arc forces at once. For graphs.
-/
import Derived.Test.YtjikmjhpmkakoaaGreatDoorPkCardCographs29
import Derived.Test.YtjikmjhpmkakoaaGreatDoorPkCardCographs16
import Derived.Test.YtjikmjhpmkakoaaGreatDoorPkCardCographs10
import Derived.Test.YtjikmjhpmkakoaaGreatDoorPkCardCographs04
namespace Go.Proofs.YtjikmjhpmkakoaaGreatDoor
open Go.RowKit

theorem els_full {n : Nat} (h : n ≤ 7) : els (2 ^ n - 1) = List.range n := by
  rw [els_eq (N := n) (by have := Nat.two_pow_pos n; omega) h]
  unfold elsTo
  refine List.filter_eq_self.2 fun v hv => ?_
  rw [Nat.testBit_two_pow_sub_one]
  simpa using hv
/-- The arcs that start at a vertex before k. -/
def ForTo (rs : List Int) (a b k : Nat) (es : List (Nat × Nat)) : Prop := ∀ q, q ∈ es ↔ q ∈ nxV rs a b ∧ q.1 < k
theorem ForTo.nil (rs : List Int) (a b : Nat) : ForTo rs a b 0 [] := fun q => by simp
theorem ForTo.end {rs : List Int} {a b : Nat} {es : List (Nat × Nat)} (h : ForTo rs a b rs.length es) : ∀ q, q ∈ es ↔ q ∈ nxV rs a b := fun q => by
  rw [h q]
  exact ⟨fun h => h.1, fun h => ⟨h, (nx_mem (p := (a, b)).1 h).1⟩⟩
/-- The arcs from a, up to a place in the list of their ends. -/
def ForIn (a : Nat) (es0 : List (Nat × Nat)) (X j : Nat) (es : List (Nat × Nat)) : Prop := ∀ q, q ∈ es ↔ q ∈ es0 ∨ (q.1 = a ∧ q.2 ∈ (els X).take j)
theorem ForIn.nil (a : Nat) (es0 : List (Nat × Nat)) (X : Nat) : ForIn a es0 X 0 es0 := fun q => by simp
theorem ForIn.push {a X j c : Nat} {es0 es : List (Nat × Nat)} (h : ForIn a es0 X j es) (hj : (els X)[j]? = some c) : ForIn a es0 X (j + 1) (es ++ [(a, c)]) := fun q => by
  obtain ⟨x, y⟩ := q
  rw [List.mem_append, h, List.take_add_one, hj]
  simp only [List.mem_append, Option.toList_some, List.mem_singleton, Prod.mk.injEq]
  constructor
  · rintro ((h | ⟨h1, h2⟩) | ⟨h1, h2⟩)
    · exact .inl h
    · exact .inr ⟨h1, .inl h2⟩
    · exact .inr ⟨h1, .inr h2⟩
  · rintro (h | ⟨h1, h2 | h2⟩)
    · exact .inl (.inl h)
    · exact .inl (.inr ⟨h1, h2⟩)
    · exact .inr ⟨h1, h2⟩
theorem ForTo.own {rs : List Int} {a b : Nat} {es0 es : List (Nat × Nat)} (g : VG rs) (ha : a < rs.length) (hb : b < rs.length) (h0 : ForTo rs a b a es0) (h : ForIn a es0 (nDiff (nDiff (gn rs a) (gn rs b)) (2 ^ b)) (els (nDiff (nDiff (gn rs a) (gn rs b)) (2 ^ b))).length es) : ForTo rs a b (a + 1) es := fun q => by
  obtain ⟨x, y⟩ := q
  have hl : nDiff (nDiff (gn rs a) (gn rs b)) (2 ^ b) < 2 ^ rs.length := nDiff_lt (nDiff_lt (g.lt a ha))
  rw [h, List.take_length, h0, mem_els hl g.le, nDiff_bit, nDiff_bit, Nat.testBit_two_pow]
  rw [nx_mem (p := (a, b))]
  dsimp only
  have hs : (gn rs b).testBit y = (gn rs y).testBit b := ad_symm g _ _
  rw [hs]
  constructor
  · rintro (⟨⟨h1, h2, h3⟩, h4⟩ | ⟨rfl, ⟨h1, h2⟩, h3⟩)
    · exact ⟨⟨h1, h2, h3⟩, by omega⟩
    · have hy := testBit_lt (g.lt x ha) h1
      exact ⟨⟨by omega, hy, h1, .inl ⟨rfl, by simp at h3; omega, h2⟩⟩, by omega⟩
  · rintro ⟨⟨h1, h2, h3, h4⟩, h5⟩
    rcases Nat.lt_or_ge x a with h6 | h6
    · exact .inl ⟨⟨h1, h2, h3, h4⟩, h6⟩
    · obtain rfl : x = a := by omega
      rcases h4 with ⟨-, h7, h8⟩ | ⟨-, h7, -⟩
      · exact .inr ⟨rfl, ⟨h3, h8⟩, by simp; omega⟩
      · exact absurd rfl h7
theorem ForTo.hit {rs : List Int} {a b k : Nat} {es0 : List (Nat × Nat)} (g : VG rs) (hk : k < rs.length) (hb : b < rs.length) (hne : k ≠ a) (h0 : ForTo rs a b k es0) (h : (nDiff (gn rs b) (gn rs a)).testBit k = true) : ForTo rs a b (k + 1) (es0 ++ [(k, b)]) := fun q => by
  obtain ⟨x, y⟩ := q
  rw [List.mem_append, h0, nx_mem (p := (a, b)), List.mem_singleton, Prod.mk.injEq]
  dsimp only
  rw [nDiff_bit] at h
  have hs : ad rs k b = true := (ad_symm g _ _).trans h.1
  have hs2 : ad rs k a = false := (ad_symm g _ _).trans h.2
  constructor
  · rintro (⟨h1, h4⟩ | ⟨rfl, rfl⟩)
    · exact ⟨h1, by omega⟩
    · exact ⟨⟨hk, hb, hs, .inr ⟨rfl, hne, hs2⟩⟩, by omega⟩
  · rintro ⟨⟨h1, h2, h3, h4⟩, h5⟩
    rcases Nat.lt_or_ge x k with h6 | h6
    · exact .inl ⟨⟨h1, h2, h3, h4⟩, h6⟩
    · obtain rfl : x = k := by omega
      rcases h4 with ⟨h7, -, -⟩ | ⟨h7, -, -⟩
      · exact absurd h7 hne
      · exact .inr ⟨rfl, h7⟩
theorem ForTo.miss {rs : List Int} {a b k : Nat} {es0 : List (Nat × Nat)} (g : VG rs) (hne : k ≠ a) (h0 : ForTo rs a b k es0) (h : (nDiff (gn rs b) (gn rs a)).testBit k = false) : ForTo rs a b (k + 1) es0 := fun q => by
  obtain ⟨x, y⟩ := q
  rw [h0, nx_mem (p := (a, b))]
  dsimp only
  constructor
  · rintro ⟨h1, h4⟩
    exact ⟨h1, by omega⟩
  · rintro ⟨⟨h1, h2, h3, h4⟩, h5⟩
    refine ⟨⟨h1, h2, h3, h4⟩, ?_⟩
    rcases Nat.lt_or_ge x k with h6 | h6
    · exact h6
    · exfalso
      obtain rfl : x = k := by omega
      rcases h4 with ⟨h7, -, -⟩ | ⟨rfl, -, h8⟩
      · exact hne h7
      · have h9 : (nDiff (gn rs y) (gn rs a)).testBit x = true := nDiff_bit.2 ⟨(ad_symm g _ _).trans h3, (ad_symm g _ _).trans h8⟩
        rw [h] at h9
        cases h9

/-- A block whose first cell is a number. -/
def NumBlk (w : World) (k : Nat) : Prop := ∃ z, w.cell? ⟨k, 0, none⟩ = some (.int .i64 z)
theorem NumBlk.below {w w' : World} {k : Nat} (h : NumBlk w k) (hk : k < w.heap.size) (hb : Below w.heap.size w w') : NumBlk w' k := by
  obtain ⟨z, h⟩ := h
  exact ⟨z, (hb.cell (p := ⟨k, 0, none⟩) hk).trans h⟩
/-- What an append to a list of slices leaves: the blocks of numbers. -/
def KeepsNum (w w' : World) : Prop := ∀ k, k < w.heap.size → NumBlk w k → w'.heap[k]? = w.heap[k]?
theorem KeepsNum.vals {w w' : World} {xs : List Value} {es : List (Nat × Nat)} (h : KeepsNum w w') (hv : ValsOf w xs es) : ValsOf w' xs es :=
  ⟨hv.1, fun k e he => by
    obtain ⟨g, h1, h2⟩ := hv.2 k e he
    have k0 : Blk w g #[.int .i64 e.1, .int .i64 e.2] 3 := h2
    have c0 := k0.cell 0
    simp at c0
    exact ⟨g, h1, (h g k0.lt ⟨_, c0⟩).trans h2⟩⟩
/-- The slice reads as natural numbers, from its block's begin on. -/
def NatsZ (w : World) (ao : Option Addr) (l : List Nat) : Prop := 0 < l.length → ∃ b, ao = some ⟨b, 0, none⟩ ∧ b < w.heap.size ∧ ∀ k, k < l.length → w.cell? ⟨b, k, none⟩ = some (.int .i64 (eln l k : Int))
theorem NatsZ.keeps {w w' : World} {ao : Option Addr} {l : List Nat} (h : NatsZ w ao l) (hs : w.heap.size ≤ w'.heap.size) (hk : KeepsNum w w') : NatsZ w' ao l := fun h0 => by
  obtain ⟨b, rfl, h1, h2⟩ := h h0
  exact ⟨b, rfl, by omega, fun k hkl => by rw [World.cell?_of_block (w := w) (hk b h1 ⟨_, h2 0 h0⟩)]; exact h2 k hkl⟩
theorem NatsZ.below {w w' : World} {ao : Option Addr} {l : List Nat} (h : NatsZ w ao l) (hb : Below w.heap.size w w') : NatsZ w' ao l := h.keeps hb.size fun k hk _ => hb.block k hk
theorem implListZ_any (S : Nat) (h : S < 128) (w : World) : Calls Tryz.prog 47 #[.int .i64 S] w fun e w' => ∃ ao cap, e = .returned (.slice ao (cnt S) cap) ∧ Below w.heap.size w w' ∧ NatsZ w' ao (els S) :=
  (implListOf_any S w).mono fun e w' ⟨ao, cap, h1, h2, h3⟩ => ⟨ao, cap, by rw [h1, listOf_length h], h2, by
    rw [listOf_nat h] at h3
    intro h0
    obtain ⟨g, h4, _, h5⟩ := (OwnE.own h3).row (by simpa using h0)
    exact ⟨g, h4, h5.lt, fun k hk => by rw [← gi_map (els S) k hk]; exact h5.cell k (by simpa using hk)⟩⟩
/-- A list of slices of the call's own, or an empty one. -/
def OwnVF (w : World) (base : Nat) (ao : Option Addr) (cap : Nat) (xs : List Value) : Prop := (xs ≠ [] ∧ OwnV w base (.slice ao xs.length cap) xs) ∨ (xs = [] ∧ cap = 0 ∧ ao ≠ none)
theorem OwnVF.below {w w' : World} {base cap : Nat} {ao : Option Addr} {xs : List Value} (h : OwnVF w base ao cap xs) (hb : Below w.heap.size w w') : OwnVF w' base ao cap xs := h.imp (fun h => ⟨h.1, h.2.below hb⟩) id
theorem OwnVF.alloc {w : World} {base cap : Nat} {ao : Option Addr} {xs : List Value} (h : OwnVF w base ao cap xs) (o : Obj) : OwnVF (w.alloc o) base ao cap xs := h.below ((Below.refl _ _).alloc (Nat.le_refl _) o)
theorem OwnVF.mono {w : World} {base base' cap : Nat} {ao : Option Addr} {xs : List Value} (h : OwnVF w base ao cap xs) (hb : base' ≤ base) : OwnVF w base' ao cap xs := h.imp (fun h => ⟨h.1, h.2.mono hb⟩) id
theorem OwnVF.cells {w : World} {base cap : Nat} {ao : Option Addr} {xs : List Value} (h : OwnVF w base ao cap xs) (h0 : 0 < xs.length) : ∃ g, ao = some ⟨g, 0, none⟩ ∧ base ≤ g ∧ g < w.heap.size ∧ ∀ k u, xs[k]? = some u → w.cell? ⟨g, k, none⟩ = some u := by
  rcases h with h | ⟨rfl, -, -⟩
  · exact h.2.cells h0
  · simp at h0
set_option maxHeartbeats 1000000 in
theorem wpList_append_rowf {ops : Array Oper} {rest : List Oper} {o : Oper} {a : Act} {Q : Exit → Act → World → Prop} {w : World} (hgd : o.guard = none) (s x : Operand)
    (ho : o.op = .call { callee := .builtin .append, args := #[s, x], argTypes := #[133, 133] })
    (base cap B : Nat) (ao : Option Addr) (xs : List Value) (y : Value) (hy : y.oneCell' = true) (hs : a.eval s = .slice ao xs.length cap) (hown : OwnVF w base ao cap xs) (hfr : FreshV B xs) (hx : a.eval x = .slice (some ⟨w.heap.size, 0, none⟩) 1 1) (hbase : base ≤ w.heap.size) (hlen : xs.length ≤ 1048576)
    (h : ∀ ao' cap' w', OwnVF w' base ao' cap' (xs ++ [y]) → Below base w w' → KeepsNum w w' → wpList Tryz.prog ops Q rest (a.put o.dst (.slice ao' (xs.length + 1) cap')) w') :
    wpList Tryz.prog ops Q (o :: rest) a (w.alloc (.cells #[y] 24)) := by
  have he : (xs ++ [y]).length = xs.length + 1 := by simp
  have hA : Below w.heap.size w (w.alloc (.cells #[y] 24)) := (Below.refl _ _).alloc (Nat.le_refl _) _
  have hAs : w.heap.size ≤ (w.alloc (.cells #[y] 24)).heap.size := hA.size
  rcases hown with ⟨hne, hown⟩ | ⟨rfl, rfl, hne⟩
  · refine wpList_append_row hgd s x ho base _ xs y hy hs hown hx hbase hlen fun ao' cap' w' h1 h2 h3 => h ao' cap' w' (.inl ⟨by simp, by rw [he]; exact h1⟩) h2 fun k hk hz => ?_
    refine (h3.block k (by omega) fun e => ?_).trans (hA.block k hk)
    have hl : 0 < xs.length := List.length_pos_iff.2 hne
    obtain ⟨g, rfl, _, _, hc⟩ := hown.cells hl
    obtain rfl : k = g := by
      have e2 : some k = some g := e
      exact Option.some.inj e2
    have h4 := hc 0 _ (List.getElem?_eq_getElem hl)
    obtain ⟨z, hz⟩ := hz
    rw [h4] at hz
    obtain ⟨g2, n2, c2, _, h5⟩ := hfr _ (List.getElem_mem hl)
    rw [h5] at hz
    cases hz
  · obtain ⟨i0, hi, hz0, hz1, hz2⟩ := info_parts info_row
    refine wpList_append_grows (w.alloc (.cells #[y] 24)) hgd s x 133 ho 24 i0 (.slice none 0 0) 1 24 Tryz.underlying133 hi hz0 hz1 hz2 rfl (by decide) ao 0 0 [] hs (fun _ => ⟨rfl, rfl⟩) rfl (by simp)
      ⟨w.heap.size, 0, none⟩ 1 1 [y] hx rfl ?_ ?_ (by omega) (by unfold maxLen; omega) (by omega) ?_
    · intro j u hj
      match j, hj with
      | 0, hj => simp at hj; subst hj; simp [Addr.add]
    · intro u hu; simp at hu; subst hu; exact hy
    · intro v' w' h1 h2
      have hb : Below base w (w.alloc (.cells #[y] 24)) := (Below.refl _ _).alloc hbase _
      have h3 : OwnV w' base v' [y] := by
        have : OwnV w' (w.heap.size + 1) v' [y] := by unfold OwnV; simpa using h1
        exact this.mono (by omega)
      obtain ⟨ao', cap', rfl⟩ := h3.form
      exact h ao' cap' w' (.inl ⟨by simp, h3⟩) (hb.grown h2 (by simp; omega) (fun k hk => by cases hk)) fun k hk _ => (h2.block k (by omega) (fun e => by cases e)).trans (hA.block k hk)

/-- A list of arcs has been returned. -/
def RetFo (L : List (Nat × Nat)) (w : World) (e : Ending) (w' : World) : Prop := ∃ (es : List (Nat × Nat)) (ao : Option Addr) (cap : Nat) (xs : List Value), e = .returned (.slice ao xs.length cap) ∧ (∀ q, q ∈ es ↔ q ∈ L) ∧ es.length ≤ 49 ∧ Below w.heap.size w w' ∧ OwnVF w' w.heap.size ao cap xs ∧ ValsOf w' xs es ∧ FreshV w.heap.size xs

set_option maxRecDepth 100000 in
set_option maxHeartbeats 4000000 in
theorem implForces_any (rs : List Int) (a b : Nat) (ro : Option Addr) (rc : Nat) (w : World) (hr : IntsAt w ro rs) (g : VG rs) (ha : a < rs.length) (hb : b < rs.length) :
    Calls Tryz.prog 166 #[.agg #[.int .i64 rs.length, .slice ro rs.length rc], .int .i64 a, .int .i64 b] w (RetFo (nxV rs a b) w) := by
  have hg1 := g.pos
  have hg2 := g.le
  have hp1 := g.pow.1
  have hAll := fun w' : World => implAll_any rs.length (.slice ro rs.length rc) hg2 w'
  have hfl := els_full hg2
  have hcn : cnt (2 ^ rs.length - 1) = rs.length := by show (els (2 ^ rs.length - 1)).length = _; rw [hfl]; simp
  have hL0 := fun w' : World => implListN_any (2 ^ rs.length - 1) (by omega) w'
  rw [hcn, hfl] at hL0
  clear hcn hfl
  go_enter Tryz.func166, Tryz.ntmps166
  go_upto_region 1 with fail
  generalize hW : World.alloc _ _ = W1
  obtain ⟨hB, hsz, k0⟩ := alloc1 hW
  replace hr := hr.below hB
  have hb0 := k0.lt
  have hc0 := k0.cell 0
  have hc1 := k0.cell 1
  simp at hc0 hc1
  clear hW k0
  have HhB := Lib.hid hB
  clear hB
  obtain ⟨rb, rofs, rfl, hrb, hrc⟩ := hr.graph g
  go_upto_region 2 with fail
  generalize hW2 : World.alloc _ _ = W2
  obtain ⟨hB2, -, -⟩ := alloc1 hW2
  obtain ⟨m, rfl⟩ : ∃ m2 : Later W1, m2.w = W2 := ⟨⟨W2, hB2⟩, rfl⟩
  clear hB2 hW2
  go_wp2_with fail
  refine (hAll m.w).mono ?_
  rintro e w2 ⟨rfl, hB2⟩
  obtain ⟨m, rfl⟩ : ∃ m2 : Later W1, m2.w = w2 := ⟨m.on hB2, rfl⟩
  clear hB2 hAll
  go_wp2_with fail
  refine (hL0 m.w).mono ?_
  rintro e w2 ⟨lo, lc, rfl, hB2, hLN⟩
  obtain ⟨m, rfl⟩ : ∃ m2 : Later W1, m2.w = w2 := ⟨m.on hB2, rfl⟩
  obtain ⟨lb, lofs, rfl, hlb, hlc0⟩ := hLN (by simp; omega)
  have hlc : ∀ k, k < rs.length → m.w.cell? ⟨lb, lofs + k, none⟩ = some (.int .i64 (k : Int)) := fun k hk => by
    have h := hlc0 k (by simpa using hk)
    rwa [show eln (List.range rs.length) k = k by simp [eln, hk]] at h
  clear hlc0 hLN hL0 hB2
  have hBm := HhB.out.trans (m.below.mono HhB.out.size)
  replace hrc : ∀ k, k < rs.length → m.w.cell? ⟨rb, rofs + k, none⟩ = some (.int .i64 (gn rs k : Int)) := fun k hk => (m.cell _ _ hrb).trans (hrc k hk)
  replace hc0 : m.w.cell? _ = _ := (m.cell _ _ hb0).trans hc0
  replace hc1 : m.w.cell? _ = _ := (m.cell _ _ hb0).trans hc1
  replace hb0 := Nat.lt_of_lt_of_le hb0 m.size
  replace hrb := Nat.lt_of_lt_of_le hrb m.size
  have hsm : w.heap.size + 1 ≤ m.w.heap.size := by have := m.size; omega
  clear hr hsz HhB
  have HhBm := Lib.hid hBm
  clear hBm
  generalize m.w = W3 at *
  clear m
  have Hhlc := Lib.hid hlc
  clear hlc
  go_upto_region 3 with fail
  go_loopw [7, 17] (fun o i wr => (∃ m : Later W3, wr = m.w) ∧ ∃ (k : Nat) (es : List (Nat × Nat)) (ao : Option Addr) (cap : Nat) (xs : List Value), k ≤ rs.length ∧ i = .int .i64 k ∧ o = .slice ao xs.length cap ∧ OwnVF wr W3.heap.size ao cap xs ∧ ValsOf wr xs es ∧ FreshV w.heap.size xs ∧ ForTo rs a b k es ∧ es.length ≤ 7 * k) (fun _ i _ => rs.length - (intOf i).toNat)
  case atStart => exact ⟨⟨Later.refl _, rfl⟩, 0, [], _, _, [], by omega, rfl, rfl, .inr ⟨rfl, rfl, by simp⟩, ValsOf.nil _, FreshV.nil _, ForTo.nil _ _ _, by simp⟩
  case round =>
    obtain ⟨⟨m, rfl⟩, k, es, ao, cap, xs, hk, rfl, rfl, hO, hV, hF, hT, hle⟩ := hrel
    have hxl := hV.1
    have hx49 : xs.length ≤ 1048576 := by omega
    clear hxl
    by_cases hlt : k < rs.length
    · have hlk := Hhlc.out k hlt
      by_cases hka : k = a
      · have d0 : ((k : Int) == (a : Int)) = true := by rw [beq_iff_eq]; omega
        have HhO := Lib.hid hO
        clear hO
        have HhV := Lib.hid hV
        clear hV
        have HhF := Lib.hid hF
        clear hF
        have HhT := Lib.hid hT
        clear hT
        have Hhka := Lib.hid hka
        clear hka
        have hga := g.lt128 ha
        have hgb := g.lt128 hb
        have hac := hrc a ha
        have hbc := hrc b hb
        have p1 := bits_andNot_nat (gn rs a) (gn rs b) (by omega)
        have hX1 : nDiff (gn rs a) (gn rs b) < 128 := nDiff_lt (n := 7) hga
        have p2 := bits_andNot_nat (nDiff (gn rs a) (gn rs b)) (2 ^ b) (by omega)
        rw [← pwN_small b (by omega)] at p2
        have hX2 : nDiff (nDiff (gn rs a) (gn rs b)) (2 ^ b) < 128 := nDiff_lt (n := 7) hX1
        have HOwn := Lib.hid (fun (es2 : List (Nat × Nat)) (h0 : ForTo rs a b a es) (h : ForIn a es (nDiff (nDiff (gn rs a) (gn rs b)) (2 ^ b)) (els (nDiff (nDiff (gn rs a) (gn rs b)) (2 ^ b))).length es2) => ForTo.own g ha hb h0 h)
        have hpw := pwN_pos b (by omega)
        generalize nDiff (nDiff (gn rs a) (gn rs b)) (2 ^ b) = X at *
        generalize nDiff (gn rs a) (gn rs b) = X1 at *
        have hLX := fun w' : World => implListZ_any X hX2 w'
        have hrb0 := hrb
        go_upto_region 6 with fail
        have hgm := Nat.lt_of_lt_of_le hb0 m.size
        have hrm := Nat.lt_of_lt_of_le hrb m.size
        refine wp_region_B (fun w' => (w'.cell? ⟨w.heap.size, 1, none⟩ = some (.slice (some ⟨rb, rofs, none⟩) rs.length rc) ∧ w'.cell? ⟨rb, rofs + a, none⟩ = some (.int .i64 (gn rs a : Int)) ∧ w'.cell? ⟨rb, rofs + b, none⟩ = some (.int .i64 (gn rs b : Int)))) (fun _ => True) [] (by kernel_rfl) (⟨(m.cell _ _ hb0).trans hc1, (m.cell _ _ hrb).trans hac, (m.cell _ _ hrb).trans hbc⟩) (trivial) (fun hM => ?_)
        refine wpAnyB_take (i := 0) (v := ?_) false rfl (by kernel_rfl) (by kernel_rfl) (by kernel_rfl) (by kernel_rfl) (by kernel_rfl) (fun _ _ _ h => h) (Or.inl ⟨by rfl, ?_⟩) hM (fun hM2 => ?_)
        rotate_left
        · (intro w hSw; replace hSw := hSw.1; (try dsimp only at hSw); go_simp; try with_reducible rfl)
        replace hM := hM2
        clear hM2
        try simp only [List.getElem_toArray, List.getElem_cons_zero, Act.put, List.setIfInBounds_toArray, List.set_cons_zero, List.set_cons_succ]
        refine wpAnyB_take (i := 1) (v := ?_) false rfl (by kernel_rfl) (by kernel_rfl) (by kernel_rfl) (by kernel_rfl) (by kernel_rfl) (fun _ _ _ h => h) (Or.inl ⟨by rfl, ?_⟩) hM (fun hM2 => ?_)
        rotate_left
        · (intro w hSw; replace hSw := hSw.1; (try dsimp only at hSw); go_simp; try with_reducible rfl)
        replace hM := hM2
        clear hM2
        try simp only [List.getElem_toArray, List.getElem_cons_succ, List.getElem_cons_zero, Act.put, List.setIfInBounds_toArray, List.set_cons_zero, List.set_cons_succ]
        refine wpAnyB_take (i := 2) (v := ?_) false rfl (by kernel_rfl) (by kernel_rfl) (by kernel_rfl) (by kernel_rfl) (by kernel_rfl) (fun _ _ _ h => h) (Or.inl ⟨by rfl, ?_⟩) hM (fun hM2 => ?_)
        rotate_left
        · (intro w hSw; replace hSw := hSw.1; (try dsimp only at hSw); go_simp; try with_reducible rfl)
        replace hM := hM2
        clear hM2
        try simp only [List.getElem_toArray, List.getElem_cons_succ, List.getElem_cons_zero, Act.put, List.setIfInBounds_toArray, List.set_cons_zero, List.set_cons_succ]
        refine wpAnyB_take (i := 3) (v := ?_) false rfl (by kernel_rfl) (by kernel_rfl) (by kernel_rfl) (by kernel_rfl) (by kernel_rfl) (fun _ _ _ h => h) (Or.inl ⟨by rfl, ?_⟩) hM (fun hM2 => ?_)
        rotate_left
        · (intro w hSw; replace hSw := hSw.1; (try dsimp only at hSw); go_simp; try with_reducible rfl)
        replace hM := hM2
        clear hM2
        try simp only [List.getElem_toArray, List.getElem_cons_succ, List.getElem_cons_zero, Act.put, List.setIfInBounds_toArray, List.set_cons_zero, List.set_cons_succ]
        refine wpAnyB_take (i := 4) (v := ?_) false rfl (by kernel_rfl) (by kernel_rfl) (by kernel_rfl) (by kernel_rfl) (by kernel_rfl) (fun _ _ _ h => h) (Or.inl ⟨by rfl, ?_⟩) hM (fun hM2 => ?_)
        rotate_left
        · (intro w hSw; replace hSw := hSw.1; (try dsimp only at hSw); go_simp; try with_reducible rfl)
        replace hM := hM2
        clear hM2
        try simp only [List.getElem_toArray, List.getElem_cons_succ, List.getElem_cons_zero, Act.put, List.setIfInBounds_toArray, List.set_cons_zero, List.set_cons_succ]
        refine wpAnyB_take (i := 5) (v := ?_) false rfl (by kernel_rfl) (by kernel_rfl) (by kernel_rfl) (by kernel_rfl) (by kernel_rfl) (fun _ _ _ h => h) (Or.inl ⟨by rfl, ?_⟩) hM (fun hM2 => ?_)
        rotate_left
        · (intro w hSw; replace hSw := hSw.1; (try dsimp only at hSw); go_simp; try with_reducible rfl)
        replace hM := hM2
        clear hM2
        try simp only [List.getElem_toArray, List.getElem_cons_succ, List.getElem_cons_zero, Act.put, List.setIfInBounds_toArray, List.set_cons_zero, List.set_cons_succ]
        refine wpAnyB_take (i := 6) (v := ?_) false rfl (by kernel_rfl) (by kernel_rfl) (by kernel_rfl) (by kernel_rfl) (by kernel_rfl) (fun _ _ _ h => h) (Or.inl ⟨by rfl, ?_⟩) hM (fun hM2 => ?_)
        rotate_left
        · (intro w hSw; replace hSw := hSw.1; (try dsimp only at hSw); go_simp; try with_reducible rfl)
        replace hM := hM2
        clear hM2
        try simp only [List.getElem_toArray, List.getElem_cons_succ, List.getElem_cons_zero, Act.put, List.setIfInBounds_toArray, List.set_cons_zero, List.set_cons_succ]
        refine wpAnyB_take (i := 7) (v := ?_) false rfl (by kernel_rfl) (by kernel_rfl) (by kernel_rfl) (by kernel_rfl) (by kernel_rfl) (fun _ _ _ h => h) (Or.inl ⟨by rfl, ?_⟩) hM (fun hM2 => ?_)
        rotate_left
        · (intro w hSw; replace hSw := hSw.1; (try dsimp only at hSw); go_simp; try with_reducible rfl)
        replace hM := hM2
        clear hM2
        try simp only [List.getElem_toArray, List.getElem_cons_succ, List.getElem_cons_zero, Act.put, List.setIfInBounds_toArray, List.set_cons_zero, List.set_cons_succ]
        refine wpAnyB_take (i := 8) (v := ?_) false rfl (by kernel_rfl) (by kernel_rfl) (by kernel_rfl) (by kernel_rfl) (by kernel_rfl) (fun _ _ _ h => h) (Or.inl ⟨by rfl, ?_⟩) hM (fun hM2 => ?_)
        rotate_left
        · (intro w hSw; replace hSw := hSw.1; (try dsimp only at hSw); go_simp; try with_reducible rfl)
        replace hM := hM2
        clear hM2
        try simp only [List.getElem_toArray, List.getElem_cons_succ, List.getElem_cons_zero, Act.put, List.setIfInBounds_toArray, List.set_cons_zero, List.set_cons_succ]
        refine wpAnyB_take (i := 9) (v := ?_) false rfl (by kernel_rfl) (by kernel_rfl) (by kernel_rfl) (by kernel_rfl) (by kernel_rfl) (fun _ _ _ h => h) (Or.inl ⟨by rfl, ?_⟩) hM (fun hM2 => ?_)
        rotate_left
        · (intro w hSw; replace hSw := hSw.1; (try dsimp only at hSw); go_simp; try with_reducible rfl)
        replace hM := hM2
        clear hM2
        try simp only [List.getElem_toArray, List.getElem_cons_succ, List.getElem_cons_zero, Act.put, List.setIfInBounds_toArray, List.set_cons_zero, List.set_cons_succ]
        refine wpAnyB_take (i := 10) (v := ?_) false rfl (by kernel_rfl) (by kernel_rfl) (by kernel_rfl) (by kernel_rfl) (by kernel_rfl) (fun _ _ _ h => h) (Or.inl ⟨by rfl, ?_⟩) hM (fun hM2 => ?_)
        rotate_left
        · (intro w hSw; replace hSw := hSw.1; (try dsimp only at hSw); go_simp; try with_reducible rfl)
        replace hM := hM2
        clear hM2
        try simp only [List.getElem_toArray, List.getElem_cons_succ, List.getElem_cons_zero, Act.put, List.setIfInBounds_toArray, List.set_cons_zero, List.set_cons_succ]
        refine wpAnyB_take (i := 11) (v := ?_) false rfl (by kernel_rfl) (by kernel_rfl) (by kernel_rfl) (by kernel_rfl) (by kernel_rfl) (fun _ _ _ h => h) (Or.inl ⟨by rfl, ?_⟩) hM (fun hM2 => ?_)
        rotate_left
        · (intro w hSw; replace hSw := hSw.1; (try dsimp only at hSw); go_simp; try with_reducible rfl)
        replace hM := hM2
        clear hM2
        try simp only [List.getElem_toArray, List.getElem_cons_succ, List.getElem_cons_zero, Act.put, List.setIfInBounds_toArray, List.set_cons_zero, List.set_cons_succ]
        refine wpAnyB_take (i := 12) (v := ?_) false rfl (by kernel_rfl) (by kernel_rfl) (by kernel_rfl) (by kernel_rfl) (by kernel_rfl) (fun _ _ _ h => h) (Or.inl ⟨by rfl, ?_⟩) hM (fun hM2 => ?_)
        rotate_left
        · (intro w hSw; replace hSw := hSw.1; (try dsimp only at hSw); go_simp; try with_reducible rfl)
        replace hM := hM2
        clear hM2
        try simp only [List.getElem_toArray, List.getElem_cons_succ, List.getElem_cons_zero, Act.put, List.setIfInBounds_toArray, List.set_cons_zero, List.set_cons_succ]
        refine wpAnyB_take (i := 13) (v := ?_) false rfl (by kernel_rfl) (by kernel_rfl) (by kernel_rfl) (by kernel_rfl) (by kernel_rfl) (fun _ _ _ h => h) (Or.inl ⟨by rfl, ?_⟩) hM (fun hM2 => ?_)
        rotate_left
        · (intro w hSw; replace hSw := hSw.1; (try dsimp only at hSw); go_simp; try with_reducible rfl)
        replace hM := hM2
        clear hM2
        try simp only [List.getElem_toArray, List.getElem_cons_succ, List.getElem_cons_zero, Act.put, List.setIfInBounds_toArray, List.set_cons_zero, List.set_cons_succ]
        refine wpAnyB_take (i := 16) (v := ?_) false rfl (by kernel_rfl) (by kernel_rfl) (by kernel_rfl) (by kernel_rfl) (by kernel_rfl) (fun _ _ _ h => h) (Or.inl ⟨by rfl, ?_⟩) hM (fun hM2 => ?_)
        rotate_left
        · (intro w hSw; replace hSw := hSw.1; (try dsimp only at hSw); go_simp; try with_reducible rfl)
        replace hM := hM2
        clear hM2
        try simp only [List.getElem_toArray, List.getElem_cons_succ, List.getElem_cons_zero, Act.put, List.setIfInBounds_toArray, List.set_cons_zero, List.set_cons_succ]
        refine wpAnyB_one (i := 14) (by kernel_rfl) rfl (fun K hK => ?_)
        (go_simp; go_at_call 47; refine (hLX _).mono ?_; rintro e w8 ⟨xo, xc, rfl, hB8, hXN⟩; have hB8 : Below m.w.heap.size m.w w8 := (Below.refl _ _).drew.trans hB8; dsimp only)
        refine hK.out _ _ (meetB.both ⟨(hB8.cell (p := ⟨w.heap.size, 1, none⟩) hgm).trans ((m.cell _ _ hb0).trans hc1), (hB8.cell (p := ⟨rb, rofs + a, none⟩) hrm).trans ((m.cell _ _ hrb).trans hac), (hB8.cell (p := ⟨rb, rofs + b, none⟩) hrm).trans ((m.cell _ _ hrb).trans hbc)⟩ trivial) (fun hM2 => ?_)
        clear hK K
        replace hM := hM2
        clear hM2
        try simp only [List.getElem_toArray, List.getElem_cons_succ, List.getElem_cons_zero, Act.put, List.setIfInBounds_toArray, List.set_cons_zero, List.set_cons_succ]
        refine wpAnyB_take (i := 15) (v := ?_) false rfl (by kernel_rfl) (by kernel_rfl) (by kernel_rfl) (by kernel_rfl) (by kernel_rfl) (fun _ _ _ h => h) (Or.inl ⟨by rfl, ?_⟩) hM (fun hM2 => ?_)
        rotate_left
        · (intro w hSw; replace hSw := hSw.1; (try dsimp only at hSw); go_simp; try with_reducible rfl)
        replace hM := hM2
        clear hM2
        try simp only [List.getElem_toArray, List.getElem_cons_succ, List.getElem_cons_zero, Act.put, List.setIfInBounds_toArray, List.set_cons_zero, List.set_cons_succ]
        refine wpAnyB_done (by kernel_rfl) ?_ _
        replace hO := HhO.out.below hB8
        replace hV := HhV.out.below hB8
        have hm := m.size
        obtain ⟨m, rfl⟩ : ∃ m2 : Later W3, m2.w = w8 := ⟨m.on hB8, rfl⟩
        have HX := Lib.hid hXN
        have hm2 : HEq m m := HEq.rfl
        clear hLX hB8 hXN hM p1 p2 hm2 HhO HhV
        have hcX := cnt_le X
        have HhO := Lib.hid hO
        clear hO
        have HhV := Lib.hid hV
        clear hV
        go_wp2_with fail
        go_loopw [7, 40] (fun o i wr => (∃ m : Later W3, wr = m.w) ∧ ∃ (t : Nat) (es2 : List (Nat × Nat)) (ao : Option Addr) (cap : Nat) (xs : List Value), t ≤ cnt X ∧ i = .int .i64 t ∧ o = .slice ao xs.length cap ∧ OwnVF wr W3.heap.size ao cap xs ∧ ValsOf wr xs es2 ∧ FreshV w.heap.size xs ∧ ForIn a es X t es2 ∧ es2.length = es.length + t ∧ NatsZ wr xo (els X)) (fun _ i _ => cnt X - (intOf i).toNat)
        case atStart => exact ⟨⟨m, rfl⟩, 0, es, _, _, xs, by omega, rfl, rfl, HhO.out, HhV.out, HhF.out, ForIn.nil _ _ _, by simp, HX.out⟩
        case round =>
          clear HhO HhV HhF HX
          obtain ⟨⟨m, rfl⟩, t, es2, ao, cap, xs, ht, rfl, rfl, hO, hV, hF, hT, hl2, hN⟩ := hrel
          have hx49 : xs.length ≤ 1048576 := by have := hV.1; omega
          have hms := m.size
          by_cases hlt2 : t < cnt X
          · obtain ⟨xb, rfl, hxb, hxc⟩ := hN (show 0 < (els X).length by show 0 < cnt X; omega)
            have hxt := hxc t hlt2
            clear hxc
            have hgt : (els X)[t]? = some (eln (els X) t) := by
              have h5 : t < (els X).length := hlt2
              rw [List.getElem?_eq_getElem h5]; simp [eln, h5]
            generalize eln (els X) t = c at *
            have HhO := Lib.hid hO
            clear hO
            have HhV := Lib.hid hV
            clear hV
            have HhF := Lib.hid hF
            clear hF
            have HhT := Lib.hid hT
            clear hT
            have Hhgt := Lib.hid hgt
            clear hgt
            have HhN := Lib.hid hN
            clear hN
            go_wp2_with (first | (at_builtin; go_must (refine wpList_append_rowf rfl _ _ rfl W3.heap.size cap w.heap.size ao xs (.slice (some ⟨m.w.heap.size, 0, none⟩) 2 2) rfl rfl (HhO.out.alloc _) HhF.out (by show Value.slice (some ⟨m.w.heap.size + 1, 0, none⟩) 1 1 = _; simp) (by simp; omega) hx49 ?_); intro ao1 cap1 w1 hown1 hB1 hG1))
            have hC : (m.w.alloc (.cells #[.int .i64 a, .int .i64 c] 3)).heap[m.w.heap.size]? = some (.cells #[.int .i64 a, .int .i64 c] 3) := by rw [heap_alloc_new]
            have hA1 : Below m.w.heap.size m.w (m.w.alloc (.cells #[.int .i64 a, .int .i64 c] 3)) := (Below.refl _ _).alloc (Nat.le_refl _) _
            have hV1 := hG1.vals ((HhV.out.below hA1).push hC)
            have hN1 := (HhN.out.below hA1).keeps (by have := hB1.size; simpa using this) hG1
            have hBm : Below W3.heap.size m.w w1 := ((Below.refl _ _).alloc hms _).trans hB1
            have hF1 := HhF.out.push (g := m.w.heap.size) (n := 2) (c := 2) (by omega)
            obtain ⟨m1, rfl⟩ : ∃ m2 : Later W3, m2.w = w1 := ⟨⟨w1, m.below.trans hBm⟩, rfl⟩
            go_roundw
            case rel => exact ⟨⟨m1, rfl⟩, t + 1, es2 ++ [(a, c)], _, _, xs ++ [_], by omega, by go_num, by rw [List.length_append]; rfl, hown1, hV1, hF1, HhT.out.push Hhgt.out, by simp; omega, hN1⟩
            case measure => simp [intOf]; omega
          · obtain rfl : t = cnt X := by omega
            have hT2 : ForTo rs a b (k + 1) es2 := by
              have h0 := HhT.out
              rw [Hhka.out] at h0 ⊢
              exact HOwn.out es2 h0 hT
            have HhO := Lib.hid hO
            clear hO
            have HhV := Lib.hid hV
            clear hV
            have HhF := Lib.hid hF
            clear hF
            have HhT2 := Lib.hid hT2
            clear hT2
            clear hT hN
            go_wp2_with fail
            go_roundw
            case rel => exact ⟨⟨m, rfl⟩, k + 1, es2, _, _, xs, by omega, by go_num, rfl, HhO.out, HhV.out, HhF.out, HhT2.out, by omega⟩
            case measure => simp [intOf]; omega
      · have d0 : ((k : Int) == (a : Int)) = false := by rw [beq_eq_false_iff_ne]; omega
        have hga := g.lt128 ha
        have hgb := g.lt128 hb
        have hac := hrc a ha
        have hbc := hrc b hb
        have p1 := bits_andNot_nat (gn rs b) (gn rs a) (by omega)
        have hX1 : nDiff (gn rs b) (gn rs a) < 128 := nDiff_lt (n := 7) hgb
        have hHit := fun h => ForTo.hit g hlt hb hka hT h
        have hMiss := fun h => ForTo.miss g hka hT h
        have hHas : ∀ m2 : Later m.w, _ := fun m2 : Later m.w => Calls.later_same m2 (has_any (nDiff (gn rs b) (gn rs a) : Int) (k : Int) (by omega) (by omega) m2.w)
        have hbit : hasN (nDiff (gn rs b) (gn rs a) : Int) ((k : Int)).toNat = (nDiff (gn rs b) (gn rs a)).testBit k := by rw [hasN_nat]; simp
        rw [hbit] at hHas
        clear hbit
        generalize nDiff (gn rs b) (gn rs a) = X at *
        have HhO := Lib.hid hO
        clear hO
        have HhV := Lib.hid hV
        clear hV
        have HhF := Lib.hid hF
        clear hF
        have HhT := Lib.hid hT
        clear hT
        have HhHit := Lib.hid hHit
        clear hHit
        have HhMiss := Lib.hid hMiss
        clear hMiss
        go_upto_region 11 with fail
        have hy1 : m.w.cell? _ = _ := (m.cell _ _ hb0).trans hc1
        have hya : m.w.cell? _ = _ := (m.cell _ _ hrb).trans hac
        have hyb : m.w.cell? _ = _ := (m.cell _ _ hrb).trans hbc
        have hgm := Nat.lt_of_lt_of_le hb0 m.size
        have hrm := Nat.lt_of_lt_of_le hrb m.size
        have HW := Lib.hid fun m2 : Later m.w => (⟨m.on m2.below, rfl⟩ : ∃ m' : Later W3, m'.w = m2.w)
        have hms := m.size
        have hkeep : Hid (∀ w', Below m.w.heap.size m.w w' → Below W3.heap.size W3 w') := Lib.hid fun w' h => below_more m.below h
        clear hrc hac hbc hlk
        generalize m.w = W5 at *
        clear m
        obtain ⟨m, hm0⟩ : ∃ m : Later W5, m.w = W5 := ⟨Later.refl _, rfl⟩
        refine (fun h => hm0 ▸ h) ?_
        clear hm0
        refine wp_region_later m rfl (by kernel_rfl) (by kernel_rfl) ?_
        repeat (go_big_quiet_step ((first | (go_at_call 60; with_reducible exact hHas _))))
        refine wpQuiet_nil ?_
        rintro _ ⟨m, rfl⟩
        have hV := HhV.out.below m.below
        have hO := HhO.out.below m.below
        have hms2 : W3.heap.size ≤ m.w.heap.size := Nat.le_trans hms m.size
        have HhV := Lib.hid hV
        clear hV
        have HhO := Lib.hid hO
        clear hO
        cases hb2 : X.testBit k
        · have hT2 := HhMiss.out hb2
          have HhT2 := Lib.hid hT2
          clear hT2
          go_wp2_with fail
          go_roundw
          case rel => exact ⟨⟨⟨m.w, hkeep.out _ m.below⟩, rfl⟩, k + 1, es, _, _, xs, by omega, by go_num, rfl, HhO.out, HhV.out, HhF.out, HhT2.out, by omega⟩
          case measure => simp [intOf]; omega
        · have hT2 := HhHit.out hb2
          have HhT2 := Lib.hid hT2
          clear hT2
          go_wp2_with (at_builtin; go_must (refine wpList_append_rowf rfl _ _ rfl W3.heap.size cap w.heap.size ao xs (.slice (some ⟨m.w.heap.size, 0, none⟩) 2 2) rfl rfl (HhO.out.alloc _) HhF.out (by show Value.slice (some ⟨m.w.heap.size + 1, 0, none⟩) 1 1 = _; simp) (by simp; omega) hx49 ?_); intro ao1 cap1 w1 hown1 hB1 hG1)
          have hC : (m.w.alloc (.cells #[.int .i64 k, .int .i64 b] 3)).heap[m.w.heap.size]? = some (.cells #[.int .i64 k, .int .i64 b] 3) := by rw [heap_alloc_new]
          have hA1 : Below m.w.heap.size m.w (m.w.alloc (.cells #[.int .i64 k, .int .i64 b] 3)) := (Below.refl _ _).alloc (Nat.le_refl _) _
          have hV1 := hG1.vals ((HhV.out.below hA1).push hC)
          have hBm : Below W3.heap.size m.w w1 := ((Below.refl _ _).alloc hms2 _).trans hB1
          have hF1 := HhF.out.push (g := m.w.heap.size) (n := 2) (c := 2) (by omega)
          have hBe := (hkeep.out _ m.below).trans hBm
          go_roundw
          case rel => exact ⟨⟨⟨w1, hBe⟩, rfl⟩, k + 1, es ++ [(k, b)], _, _, xs ++ [_], by omega, by go_num, by rw [List.length_append]; rfl, hown1, hV1, hF1, HhT2.out, by simp; omega⟩
          case measure => simp [intOf]; omega
    · obtain rfl : k = rs.length := by omega
      have hE := hT.end
      have HhO := Lib.hid hO
      clear hO
      have HhV := Lib.hid hV
      clear hV
      have HhF := Lib.hid hF
      clear hF
      have HhE := Lib.hid hE
      clear hE
      clear hT
      go_wp2_with fail
      go_ret
      exact ⟨es, ao, cap, xs, rfl, HhE.out, by omega, HhBm.out.trans (m.below.mono HhBm.out.size), HhO.out.mono (Nat.le_of_lt hb0), HhV.out, HhF.out⟩

end Go.Proofs.YtjikmjhpmkakoaaGreatDoor
