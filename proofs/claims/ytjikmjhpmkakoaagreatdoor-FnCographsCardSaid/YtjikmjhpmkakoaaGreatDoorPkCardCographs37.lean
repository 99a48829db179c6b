/-
  forced of the program: an arc and all arcs that it forces. For graphs.
-/
import Derived.Test.YtjikmjhpmkakoaaGreatDoorPkCardCographs30
import Derived.Test.YtjikmjhpmkakoaaGreatDoorPkCardCographs13
import Derived.Test.YtjikmjhpmkakoaaGreatDoorPkCardCographs36
namespace Go.Proofs.YtjikmjhpmkakoaaGreatDoor
open Go.RowKit

/-- An append to a list of slices lets every block alone that begins otherwise. -/
theorem kept_other {w w' : World} {base n cap : Nat} {ao : Option Addr} {xs : List Value} {u : Value} (ho : OwnV w base (.slice ao n cap) xs) (h0 : xs[0]? = some u) (hg : w.grownBy w' (Value.slice ao n cap).ownBlock) {k : Nat} (hk : k < w.heap.size) (hc : w.cell? ⟨k, 0, none⟩ ≠ some u) : w'.heap[k]? = w.heap[k]? := by
  obtain ⟨hl, -⟩ := List.getElem?_eq_some_iff.1 h0
  obtain ⟨g, rfl, -, -, h1⟩ := ho.cells (by omega)
  refine hg.block k hk fun e => hc ?_
  have e2 : some k = some g := e
  rw [Option.some.inj e2]
  exact h1 0 u h0
theorem kept_otherL {w w' : World} {base n cap : Nat} {ao : Option Addr} {F : List Int} {z : Int} (ho : OwnL w base (.slice ao n cap) F) (h0 : F[0]? = some z) (hg : w.grownBy w' (Value.slice ao n cap).ownBlock) {k : Nat} (hk : k < w.heap.size) (hc : w.cell? ⟨k, 0, none⟩ ≠ some (.int .i64 z)) : w'.heap[k]? = w.heap[k]? := by
  obtain ⟨hl, h1⟩ := List.getElem?_eq_some_iff.1 h0
  have hn : n = F.length := by
    obtain ⟨ao2, c2, e⟩ := ho.form
    simp only [Value.slice.injEq] at e
    exact e.2.1
  subst hn
  obtain ⟨g, rfl, -, h2⟩ := (OwnE.own ho).row (by omega)
  refine hg.block k hk fun e => hc ?_
  have e2 : some k = some g := e
  rw [Option.some.inj e2, h2.cell 0 (by omega)]
  simp [gi, h0]
/-- All blocks that begin with natural numbers stay. -/
def KeepsNat (w w' : World) : Prop := ∀ k, k < w.heap.size → (∃ z : Nat, w.cell? ⟨k, 0, none⟩ = some (.int .i64 (z : Int))) → w'.heap[k]? = w.heap[k]?
theorem KeepsNat.vals {w w' : World} {xs : List Value} {es : List (Nat × Nat)} (h : KeepsNat w w') (hv : ValsOf w xs es) : ValsOf w' xs es :=
  ⟨hv.1, fun k e he => by
    obtain ⟨g, h1, h2⟩ := hv.2 k e he
    have k0 : Blk w g #[.int .i64 e.1, .int .i64 e.2] 3 := h2
    have c0 := k0.cell 0
    simp at c0
    exact ⟨g, h1, (h g k0.lt ⟨_, c0⟩).trans h2⟩⟩
theorem OwnV.keptW {w w' : World} {base n cap : Nat} {ao : Option Addr} {xs : List Value} (h : OwnV w base (.slice ao n cap) xs) (h0 : 0 < xs.length) (hk : ∀ g, ao = some ⟨g, 0, none⟩ → w'.heap[g]? = w.heap[g]?) : OwnV w' base (.slice ao n cap) xs := by
  obtain ⟨hl, ⟨h1, h2⟩ | ⟨g, c2, cur, hv, hb, hh, r⟩⟩ := h
  · simp at h2; subst h2; simp at h0
  · have hv2 := hv
    simp only [Value.slice.injEq] at hv2
    obtain ⟨rfl, -, -⟩ := hv2
    exact ⟨hl, .inr ⟨g, c2, cur, hv, hb, (hk g rfl).trans hh, r⟩⟩
theorem OwnL.keptW {w w' : World} {base n cap : Nat} {ao : Option Addr} {xs : List Int} (h : OwnL w base (.slice ao n cap) xs) (h0 : 0 < xs.length) (hk : ∀ g, ao = some ⟨g, 0, none⟩ → w'.heap[g]? = w.heap[g]?) : OwnL w' base (.slice ao n cap) xs := by
  obtain ⟨hl, ⟨h1, h2⟩ | ⟨g, c2, cur, hv, hb, hh, r⟩⟩ := h
  · omega
  · have hv2 := hv
    simp only [Value.slice.injEq] at hv2
    obtain ⟨rfl, -, -⟩ := hv2
    exact ⟨hl, .inr ⟨g, c2, cur, hv, hb, (hk g rfl).trans hh, r⟩⟩
/-- The memory of the two lists at the head of a loop: the arcs, and where each came from. -/
structure FoSt (W w : World) (B gs : Nat) (ao fo : Option Addr) (cap fc : Nat) (xs : List Value) (F : List Int) (es : List (Nat × Nat)) : Prop where
  o : OwnV w W.heap.size (.slice ao xs.length cap) xs
  v : ValsOf w xs es
  first : xs[0]? = some (.slice (some ⟨gs, 0, none⟩) 2 2)
  f : OwnL w W.heap.size (.slice fo F.length fc) F
  minus : F[0]? = some (-1)
  len : F.length = es.length
  fresh : FreshV B xs
theorem FoSt.below {W w w' : World} {B gs cap fc : Nat} {ao fo : Option Addr} {xs : List Value} {F : List Int} {es : List (Nat × Nat)} (h : FoSt W w B gs ao fo cap fc xs F es) (hb : Below w.heap.size w w') : FoSt W w' B gs ao fo cap fc xs F es :=
  ⟨h.o.below hb, h.v.below hb, h.first, h.f.below hb, h.minus, h.len, h.fresh⟩
theorem FoSt.pos {W w : World} {B gs cap fc : Nat} {ao fo : Option Addr} {xs : List Value} {F : List Int} {es : List (Nat × Nat)} (h : FoSt W w B gs ao fo cap fc xs F es) : 0 < xs.length := (List.getElem?_eq_some_iff.1 h.first).1

theorem FoSt.push1 {W w w1 : World} {B gs gq cap fc u v : Nat} {ao fo : Option Addr} {xs : List Value} {F : List Int} {es : List (Nat × Nat)} (h : FoSt W w B gs ao fo cap fc xs F es) (hq : w.heap[gq]? = some (.cells #[.int .i64 u, .int .i64 v] 3))
    (hgr : (w.alloc (.cells #[.slice (some ⟨gq, 0, none⟩) 2 2] 24)).grownBy w1 (Value.slice ao xs.length cap).ownBlock) :
    ValsOf w1 (xs ++ [.slice (some ⟨gq, 0, none⟩) 2 2]) (es ++ [(u, v)]) ∧ OwnL w1 W.heap.size (.slice fo F.length fc) F ∧ (∀ k, k < w.heap.size → w.cell? ⟨k, 0, none⟩ ≠ some (.slice (some ⟨gs, 0, none⟩) 2 2) → w1.heap[k]? = w.heap[k]?) := by
  have hA : Below w.heap.size w (w.alloc (.cells #[.slice (some ⟨gq, 0, none⟩) 2 2] 24)) := (Below.refl _ _).alloc (Nat.le_refl _) _
  have hs := hA.size
  have key : ∀ k, k < w.heap.size → w.cell? ⟨k, 0, none⟩ ≠ some (.slice (some ⟨gs, 0, none⟩) 2 2) → w1.heap[k]? = w.heap[k]? := fun k hk hc => (kept_other (h.o.below hA) h.first hgr (by omega) (by rw [hA.cell (p := ⟨k, 0, none⟩) hk]; exact hc)).trans (hA.block k hk)
  refine ⟨?_, ?_, key⟩
  · exact KeepsNat.vals (fun k hk ⟨z, hz⟩ => key k hk (by rw [hz]; simp)) (h.v.push hq)
  · refine h.f.keptW (by have := (List.getElem?_eq_some_iff.1 h.minus).1; omega) fun g e => ?_
    subst e
    obtain ⟨g2, e2, -, h2⟩ := (OwnE.own h.f).row (List.getElem?_eq_some_iff.1 h.minus).1
    obtain rfl : g = g2 := by simpa using e2
    exact key g h2.lt (by rw [h2.cell 0 (List.getElem?_eq_some_iff.1 h.minus).1]; simp)
theorem FoSt.push2 {W w w1 w2 : World} {B gs gq cap fc u v c1 g2 c2 : Nat} {ao fo ao1 : Option Addr} {xs : List Value} {F : List Int} {es : List (Nat × Nat)} {y : Int} (h : FoSt W w B gs ao fo cap fc xs F es)
    (hO : OwnV w1 W.heap.size (.slice ao1 (xs.length + 1) c1) (xs ++ [.slice (some ⟨gq, 0, none⟩) 2 2])) (hV : ValsOf w1 (xs ++ [.slice (some ⟨gq, 0, none⟩) 2 2]) (es ++ [(u, v)])) (hF : OwnL w1 W.heap.size (.slice fo F.length fc) F) (hB : B ≤ gq)
    (hgr : (w1.alloc (.cells #[.int .i64 y] 3)).grownBy w2 (Value.slice fo F.length fc).ownBlock) (hF2 : OwnL w2 W.heap.size (.slice (some ⟨g2, 0, none⟩) (F.length + 1) c2) (F ++ [y])) :
    FoSt W w2 B gs ao1 (some ⟨g2, 0, none⟩) c1 c2 (xs ++ [.slice (some ⟨gq, 0, none⟩) 2 2]) (F ++ [y]) (es ++ [(u, v)]) ∧ (∀ k, k < w1.heap.size → w1.cell? ⟨k, 0, none⟩ ≠ some (.int .i64 (-1)) → w2.heap[k]? = w1.heap[k]?) := by
  have hA : Below w1.heap.size w1 (w1.alloc (.cells #[.int .i64 y] 3)) := (Below.refl _ _).alloc (Nat.le_refl _) _
  have hs := hA.size
  have key : ∀ k, k < w1.heap.size → w1.cell? ⟨k, 0, none⟩ ≠ some (.int .i64 (-1)) → w2.heap[k]? = w1.heap[k]? := fun k hk hc => (kept_otherL (hF.below hA) h.minus hgr (by omega) (by rw [hA.cell (p := ⟨k, 0, none⟩) hk]; exact hc)).trans (hA.block k hk)
  have hx := h.first
  have hxl := h.pos
  have hml := (List.getElem?_eq_some_iff.1 h.minus).1
  refine ⟨⟨?_, KeepsNat.vals (fun k hk ⟨z, hz⟩ => key k hk (by rw [hz]; simp)) hV, by rw [List.getElem?_append_left hxl]; exact hx, by rw [List.length_append]; exact hF2, by rw [List.getElem?_append_left hml]; exact h.minus, by have := h.len; simp; omega, h.fresh.push hB⟩, key⟩
  rw [List.length_append]
  refine OwnV.keptW hO (by simp) fun g e => ?_
  subst e
  obtain ⟨g3, e3, -, h3, h4⟩ := hO.cells (by simp)
  obtain rfl : g = g3 := by simpa using e3
  refine key g h3 ?_
  rw [h4 0 _ (by rw [List.getElem?_append_left hxl]; exact hx)]
  simp

/-- The arcs that an arc forces have been returned. -/
def RetFd (rs : List Int) (a b : Nat) (w : World) (e : Ending) (w' : World) : Prop := ∃ (es : List (Nat × Nat)) (ao : Option Addr) (cap : Nat) (xs : List Value) (vf : Value), e = .returned (.tuple #[.slice ao xs.length cap, vf]) ∧ Fs rs (a, b) es ∧ (∀ p ∈ es, ∀ q ∈ nxV rs p.1 p.2, q ∈ es) ∧ Below w.heap.size w w' ∧ OwnV w' w.heap.size (.slice ao xs.length cap) xs ∧ ValsOf w' xs es ∧ FreshV w.heap.size xs

set_option maxRecDepth 100000 in
set_option maxHeartbeats 4000000 in
theorem implForced_any (rs : List Int) (a b : Nat) (ro : Option Addr) (rc : Nat) (w : World) (hr : IntsAt w ro rs) (g : VG rs) (ha : a < rs.length) (hb : b < rs.length) :
    Calls Tryz.prog 152 #[.agg #[.int .i64 rs.length, .slice ro rs.length rc], .int .i64 a, .int .i64 b] w (RetFd rs a b w) := by
  go_enter Tryz.func152, Tryz.ntmps152
  go_upto_region 1 with fail
  generalize hW : World.alloc _ _ = W1
  obtain ⟨hB, hsz, k0⟩ := alloc1 hW
  replace hr := hr.below hB
  have hb0 := k0.lt
  have hc0 := k0.cell 0
  have hc1 := k0.cell 1
  simp at hc0 hc1
  clear hW k0
  have HhB := Lib.hid hB
  clear hB
  have Hhsz := Lib.hid hsz
  clear hsz
  go_upto_region 3 with fail
  generalize hWa : World.alloc _ _ = W2
  obtain ⟨hB2, hs2, ka, kb, kf⟩ := alloc3 hWa
  have st : FoSt W1 W2 w.heap.size W1.heap.size (some ⟨W1.heap.size + 1, 0, none⟩) (some ⟨W1.heap.size + 1 + 1, 0, none⟩) 1 1 [.slice (some ⟨W1.heap.size, 0, none⟩) 2 2] [-1] [(a, b)] :=
    ⟨⟨by simp, .inr ⟨W1.heap.size + 1, 1, #[_], rfl, by omega, kb, by simp, by unfold maxLen; omega, by simp, by simp⟩⟩, (ValsOf.nil W2).push ka, rfl, ⟨by simp, .inr ⟨W1.heap.size + 1 + 1, 1, #[_], rfl, by omega, kf, by simp, by unfold maxLen; omega, by simp, by simp⟩⟩, rfl, rfl, (FreshV.nil _).push (by omega)⟩
  have hFs : Fs rs (a, b) [(a, b)] := ⟨by simp, fun p hp => by rw [List.mem_singleton] at hp; subst hp; exact ⟨ha, hb⟩, fun p hp => by rw [List.mem_singleton] at hp; subst hp; exact .base, by simp⟩
  obtain ⟨m, rfl⟩ : ∃ m2 : Later W1, m2.w = W2 := ⟨⟨W2, hB2⟩, rfl⟩
  clear hWa hB2 hs2 ka kb kf
  go_loopw [8, 9, 10] (fun o f i wr => (∃ m : Later W1, wr = m.w) ∧ ∃ (k : Nat) (es : List (Nat × Nat)) (xs : List Value) (F : List Int) (ao fo : Option Addr) (cap fc : Nat), i = .int .i64 k ∧ o = .slice ao xs.length cap ∧ f = .slice fo F.length fc ∧ FoSt W1 wr w.heap.size W1.heap.size ao fo cap fc xs F es ∧ Fs rs (a, b) es ∧ k ≤ es.length ∧ (∀ j p, j < k → es[j]? = some p → ∀ q ∈ nxV rs p.1 p.2, q ∈ es)) (fun _ _ i _ => 50 - (intOf i).toNat)
  case atStart => exact ⟨⟨m, rfl⟩, 0, _, [_], [_], _, _, _, _, rfl, rfl, rfl, st, hFs, by omega, fun j p h => by omega⟩
  case round =>
    clear st hFs m
    obtain ⟨⟨m, rfl⟩, k, es, xs, F, ao, fo, cap, fc, rfl, rfl, rfl, st, hF, hk, hC⟩ := hrel
    have hlen := st.v.1
    have h49 := hF.len g
    by_cases hlt : k < xs.length
    · have hkb : k < 50 := by omega
      have hx49 : xs.length ≤ 1048576 := by omega
      obtain ⟨g0, rfl, hg00, hg0, hcx⟩ := st.o.cells (by omega)
      have he : es[k]? = some es[k] := List.getElem?_eq_getElem (by omega)
      have hp := hF.lt es[k] (List.getElem_mem _)
      have hpm : es[k] ∈ es := List.getElem_mem _
      obtain ⟨g1, h1, hg1, c0, c1⟩ := st.v.at2 he
      have hck := hcx k _ h1
      generalize es[k] = p at *
      obtain ⟨x, y⟩ := p
      dsimp only at c0 c1 hp
      have hrm := hr.later m
      have hcm0 := (m.cell _ 0 hb0).trans hc0
      have hcm1 := (m.cell _ 1 hb0).trans hc1
      have hbm := Nat.lt_of_lt_of_le hb0 m.size
      have hN := fun (w3 : World) (h3 : Below m.w.heap.size m.w w3) => implForces_any rs x y ro rc w3 (hrm.below h3) g hp.1 hp.2
      have HEk := Lib.hid he
      have HLs : Hid (∀ q ds, (x, y) ∈ es ++ ds → Fs rs (a, b) (es ++ ds) → q ∈ nxV rs x y → q ∉ es ++ ds → Fs rs (a, b) ((es ++ ds) ++ [q])) := fun q ds h1 h2 h3 h4 => h2.push h1 h3 h4
      generalize hL : nxV rs x y = L at *
      have HLd := Lib.hid hL
      clear h1 hcx he hL
      have Hst := Lib.hid st
      clear st
      have HhF := Lib.hid hF
      clear hF
      have HhC := Lib.hid hC
      clear hC
      have HhN := Lib.hid hN
      clear hN
      have Hhlen := Lib.hid hlen
      clear hlen
      have Hh49 := Lib.hid h49
      clear h49
      go_upto_region 5 with fail
      refine wp_region_B (fun w' => (w'.cell? ⟨w.heap.size, 0, none⟩ = some (.int .i64 rs.length) ∧ w'.cell? ⟨w.heap.size, 1, none⟩ = some (.slice ro rs.length rc) ∧ w'.cell? ⟨g0, k, none⟩ = some (.slice (some ⟨g1, 0, none⟩) 2 2) ∧ w'.cell? ⟨g1, 0, none⟩ = some (.int .i64 x) ∧ w'.cell? ⟨g1, 1, none⟩ = some (.int .i64 y))) (fun _ => True) [] (by kernel_rfl) (⟨hcm0, hcm1, hck, c0, c1⟩) (trivial) (fun hM => ?_)
      refine wpAnyB_take (i := 0) (v := ?_) false rfl (by kernel_rfl) (by kernel_rfl) (by kernel_rfl) (by kernel_rfl) (by kernel_rfl) (fun _ _ _ h => h) (Or.inl ⟨by rfl, ?_⟩) hM (fun hM2 => ?_)
      rotate_left
      · (intro w hSw; replace hSw := hSw.1; (try dsimp only at hSw); go_simp; try with_reducible rfl)
      replace hM := hM2
      clear hM2
      try simp only [List.getElem_toArray, List.getElem_cons_zero, Act.put, List.setIfInBounds_toArray, List.set_cons_zero, List.set_cons_succ]
      refine wpAnyB_take (i := 1) (v := ?_) false rfl (by kernel_rfl) (by kernel_rfl) (by kernel_rfl) (by kernel_rfl) (by kernel_rfl) (fun _ _ _ h => h) (Or.inl ⟨by rfl, ?_⟩) hM (fun hM2 => ?_)
      rotate_left
      · (intro w hSw; replace hSw := hSw.1; (try dsimp only at hSw); go_simp; try with_reducible rfl)
      replace hM := hM2
      clear hM2
      try simp only [List.getElem_toArray, List.getElem_cons_succ, List.getElem_cons_zero, Act.put, List.setIfInBounds_toArray, List.set_cons_zero, List.set_cons_succ]
      refine wpAnyB_take (i := 2) (v := ?_) false rfl (by kernel_rfl) (by kernel_rfl) (by kernel_rfl) (by kernel_rfl) (by kernel_rfl) (fun _ _ _ h => h) (Or.inl ⟨by rfl, ?_⟩) hM (fun hM2 => ?_)
      rotate_left
      · (intro w hSw; replace hSw := hSw.1; (try dsimp only at hSw); go_simp; try with_reducible rfl)
      replace hM := hM2
      clear hM2
      try simp only [List.getElem_toArray, List.getElem_cons_succ, List.getElem_cons_zero, Act.put, List.setIfInBounds_toArray, List.set_cons_zero, List.set_cons_succ]
      refine wpAnyB_take (i := 3) (v := ?_) false rfl (by kernel_rfl) (by kernel_rfl) (by kernel_rfl) (by kernel_rfl) (by kernel_rfl) (fun _ _ _ h => h) (Or.inl ⟨by rfl, ?_⟩) hM (fun hM2 => ?_)
      rotate_left
      · (intro w hSw; replace hSw := hSw.1; (try dsimp only at hSw); go_simp; try with_reducible rfl)
      replace hM := hM2
      clear hM2
      try simp only [List.getElem_toArray, List.getElem_cons_succ, List.getElem_cons_zero, Act.put, List.setIfInBounds_toArray, List.set_cons_zero, List.set_cons_succ]
      refine wpAnyB_take (i := 4) (v := ?_) false rfl (by kernel_rfl) (by kernel_rfl) (by kernel_rfl) (by kernel_rfl) (by kernel_rfl) (fun _ _ _ h => h) (Or.inl ⟨by rfl, ?_⟩) hM (fun hM2 => ?_)
      rotate_left
      · (intro w hSw; replace hSw := hSw.1; (try dsimp only at hSw); go_simp; try with_reducible rfl)
      replace hM := hM2
      clear hM2
      try simp only [List.getElem_toArray, List.getElem_cons_succ, List.getElem_cons_zero, Act.put, List.setIfInBounds_toArray, List.set_cons_zero, List.set_cons_succ]
      refine wpAnyB_take (i := 5) (v := ?_) false rfl (by kernel_rfl) (by kernel_rfl) (by kernel_rfl) (by kernel_rfl) (by kernel_rfl) (fun _ _ _ h => h) (Or.inl ⟨by rfl, ?_⟩) hM (fun hM2 => ?_)
      rotate_left
      · (intro w hSw; replace hSw := hSw.1; (try dsimp only at hSw); go_simp; try with_reducible rfl)
      replace hM := hM2
      clear hM2
      try simp only [List.getElem_toArray, List.getElem_cons_succ, List.getElem_cons_zero, Act.put, List.setIfInBounds_toArray, List.set_cons_zero, List.set_cons_succ]
      refine wpAnyB_take (i := 6) (v := ?_) false rfl (by kernel_rfl) (by kernel_rfl) (by kernel_rfl) (by kernel_rfl) (by kernel_rfl) (fun _ _ _ h => h) (Or.inl ⟨by rfl, ?_⟩) hM (fun hM2 => ?_)
      rotate_left
      · (intro w hSw; replace hSw := hSw.1; (try dsimp only at hSw); go_simp; try with_reducible rfl)
      replace hM := hM2
      clear hM2
      try simp only [List.getElem_toArray, List.getElem_cons_succ, List.getElem_cons_zero, Act.put, List.setIfInBounds_toArray, List.set_cons_zero, List.set_cons_succ]
      refine wpAnyB_take (i := 7) (v := ?_) false rfl (by kernel_rfl) (by kernel_rfl) (by kernel_rfl) (by kernel_rfl) (by kernel_rfl) (fun _ _ _ h => h) (Or.inl ⟨by rfl, ?_⟩) hM (fun hM2 => ?_)
      rotate_left
      · (intro w hSw; replace hSw := hSw.1; (try dsimp only at hSw); go_simp; try with_reducible rfl)
      replace hM := hM2
      clear hM2
      try simp only [List.getElem_toArray, List.getElem_cons_succ, List.getElem_cons_zero, Act.put, List.setIfInBounds_toArray, List.set_cons_zero, List.set_cons_succ]
      refine wpAnyB_take (i := 8) (v := ?_) false rfl (by kernel_rfl) (by kernel_rfl) (by kernel_rfl) (by kernel_rfl) (by kernel_rfl) (fun _ _ _ h => h) (Or.inl ⟨by rfl, ?_⟩) hM (fun hM2 => ?_)
      rotate_left
      · (intro w hSw; replace hSw := hSw.1; (try dsimp only at hSw); go_simp; try with_reducible rfl)
      replace hM := hM2
      clear hM2
      try simp only [List.getElem_toArray, List.getElem_cons_succ, List.getElem_cons_zero, Act.put, List.setIfInBounds_toArray, List.set_cons_zero, List.set_cons_succ]
      refine wpAnyB_take (i := 9) (v := ?_) false rfl (by kernel_rfl) (by kernel_rfl) (by kernel_rfl) (by kernel_rfl) (by kernel_rfl) (fun _ _ _ h => h) (Or.inl ⟨by rfl, ?_⟩) hM (fun hM2 => ?_)
      rotate_left
      · (intro w hSw; replace hSw := hSw.1; (try dsimp only at hSw); go_simp; try with_reducible rfl)
      replace hM := hM2
      clear hM2
      try simp only [List.getElem_toArray, List.getElem_cons_succ, List.getElem_cons_zero, Act.put, List.setIfInBounds_toArray, List.set_cons_zero, List.set_cons_succ]
      refine wpAnyB_take (i := 10) (v := ?_) false rfl (by kernel_rfl) (by kernel_rfl) (by kernel_rfl) (by kernel_rfl) (by kernel_rfl) (fun _ _ _ h => h) (Or.inl ⟨by rfl, ?_⟩) hM (fun hM2 => ?_)
      rotate_left
      · (intro w hSw; replace hSw := hSw.1; (try dsimp only at hSw); go_simp; try with_reducible rfl)
      replace hM := hM2
      clear hM2
      try simp only [List.getElem_toArray, List.getElem_cons_succ, List.getElem_cons_zero, Act.put, List.setIfInBounds_toArray, List.set_cons_zero, List.set_cons_succ]
      refine wpAnyB_take (i := 11) (v := ?_) false rfl (by kernel_rfl) (by kernel_rfl) (by kernel_rfl) (by kernel_rfl) (by kernel_rfl) (fun _ _ _ h => h) (Or.inl ⟨by rfl, ?_⟩) hM (fun hM2 => ?_)
      rotate_left
      · (intro w hSw; replace hSw := hSw.1; (try dsimp only at hSw); go_simp; try with_reducible rfl)
      replace hM := hM2
      clear hM2
      try simp only [List.getElem_toArray, List.getElem_cons_succ, List.getElem_cons_zero, Act.put, List.setIfInBounds_toArray, List.set_cons_zero, List.set_cons_succ]
      refine wpAnyB_take (i := 12) (v := ?_) false rfl (by kernel_rfl) (by kernel_rfl) (by kernel_rfl) (by kernel_rfl) (by kernel_rfl) (fun _ _ _ h => h) (Or.inl ⟨by rfl, ?_⟩) hM (fun hM2 => ?_)
      rotate_left
      · (intro w hSw; replace hSw := hSw.1; (try dsimp only at hSw); go_simp; try with_reducible rfl)
      replace hM := hM2
      clear hM2
      try simp only [List.getElem_toArray, List.getElem_cons_succ, List.getElem_cons_zero, Act.put, List.setIfInBounds_toArray, List.set_cons_zero, List.set_cons_succ]
      refine wpAnyB_take (i := 15) (v := ?_) false rfl (by kernel_rfl) (by kernel_rfl) (by kernel_rfl) (by kernel_rfl) (by kernel_rfl) (fun _ _ _ h => h) (Or.inl ⟨by rfl, ?_⟩) hM (fun hM2 => ?_)
      rotate_left
      · (intro w hSw; replace hSw := hSw.1; (try dsimp only at hSw); go_simp; try with_reducible rfl)
      replace hM := hM2
      clear hM2
      try simp only [List.getElem_toArray, List.getElem_cons_succ, List.getElem_cons_zero, Act.put, List.setIfInBounds_toArray, List.set_cons_zero, List.set_cons_succ]
      refine wpAnyB_one (i := 13) (by kernel_rfl) rfl (fun K hK => ?_)
      (go_simp; go_at_call 166; refine (HhN.out _ (Below.refl _ _).drew).mono ?_; rintro e w4 ⟨es4, aL, cL, xL, rfl, hL4, hL49, hB4, hOL, hVL, hFL⟩; have hB4 : Below m.w.heap.size m.w w4 := (Below.refl _ _).drew.trans hB4; dsimp only)
      refine hK.out _ _ (meetB.both ⟨(hB4.cell hbm).trans hcm0, (hB4.cell hbm).trans hcm1, (hB4.cell hg0).trans hck, (hB4.cell hg1).trans c0, (hB4.cell hg1).trans c1⟩ trivial) (fun hM2 => ?_)
      clear hK K
      replace hM := hM2
      clear hM2
      try simp only [List.getElem_toArray, List.getElem_cons_succ, List.getElem_cons_zero, Act.put, List.setIfInBounds_toArray, List.set_cons_zero, List.set_cons_succ]
      refine wpAnyB_take (i := 14) (v := ?_) false rfl (by kernel_rfl) (by kernel_rfl) (by kernel_rfl) (by kernel_rfl) (by kernel_rfl) (fun _ _ _ h => h) (Or.inl ⟨by rfl, ?_⟩) hM (fun hM2 => ?_)
      rotate_left
      · (intro w hSw; replace hSw := hSw.1; (try dsimp only at hSw); go_simp; try with_reducible rfl)
      replace hM := hM2
      clear hM2
      try simp only [List.getElem_toArray, List.getElem_cons_succ, List.getElem_cons_zero, Act.put, List.setIfInBounds_toArray, List.set_cons_zero, List.set_cons_succ]
      refine wpAnyB_done (by kernel_rfl) ?_ _
      have st4 := Hst.out.below hB4
      replace hFL : FreshV m.w.heap.size xL := hFL
      replace hOL : OwnVF w4 m.w.heap.size aL cL xL := hOL
      have hgsm : W1.heap.size < m.w.heap.size := by omega
      have HLn := Lib.hid hVL.1
      have Hk2 := Lib.hid (fun (w5 : World) (h : Below m.w.heap.size m.w w5) => below_more m.below h)
      obtain ⟨m4, rfl⟩ : ∃ m4 : Later W1, m4.w = w4 := ⟨m.on hB4, rfl⟩
      have hxl0 := Hst.out.pos
      have HCo := HhC
      have HLe := Lib.hid hL4
      clear hB4 hM HhN hL4
      have HhFL := Lib.hid hFL
      clear hFL
      go_wp2_with fail
      go_loopw [8, 9, 39] (fun o f i wr => (∃ m5 : Later W1, wr = m5.w) ∧ ∃ (t : Nat) (ds : List (Nat × Nat)) (xs2 : List Value) (F2 : List Int) (ao2 fo2 : Option Addr) (cap2 fc2 : Nat), i = .int .i64 t ∧ o = .slice ao2 xs2.length cap2 ∧ f = .slice fo2 F2.length fc2 ∧ t ≤ xL.length ∧ FoSt W1 wr w.heap.size W1.heap.size ao2 fo2 cap2 fc2 xs2 F2 (es ++ ds) ∧ Fs rs (a, b) (es ++ ds) ∧ (∀ j q, j < t → es4[j]? = some q → q ∈ es ++ ds) ∧ OwnVF wr m.w.heap.size aL cL xL ∧ ValsOf wr xL es4) (fun _ _ i _ => xL.length - (intOf i).toNat)
      case atStart => exact ⟨⟨m4, rfl⟩, 0, [], xs, F, _, _, _, _, rfl, rfl, rfl, by omega, by rw [List.append_nil]; exact st4, by rw [List.append_nil]; exact HhF.out, fun j q h => by omega, hOL, hVL⟩
      case round =>
        clear st4 hOL hVL
        obtain ⟨⟨m5, rfl⟩, t, ds, xs2, F2, ao2, fo2, cap2, fc2, rfl, rfl, rfl, ht, st5, hF5, hC5, hOL, hVL⟩ := hrel
        have h49 := hF5.len g
        have hn2 := st5.v.1
        have hx2 : xs2.length ≤ 1048576 := by omega
        have hF2 : F2.length ≤ 1048576 := by have := st5.len; omega
        have hm5 := m5.size
        clear h49 hn2
        by_cases hlt2 : t < xL.length
        · have htL : t < es4.length := by have := HLn.out; omega
          obtain ⟨gl, rfl, hgl0, hgl, hcL⟩ := hOL.cells (by omega)
          have hLt : es4[t]? = some es4[t] := List.getElem?_eq_getElem htL
          obtain ⟨gq, hq1, hqh⟩ := hVL.2 t _ hLt
          have hgqF : m.w.heap.size ≤ gq := by
            obtain ⟨g9, n9, c9, h9, e9⟩ := HhFL.out _ (List.mem_of_getElem? hq1)
            simp only [Value.slice.injEq, Option.some.injEq, Addr.mk.injEq] at e9
            omega
          have hLm : es4[t] ∈ L := (HLe.out _).1 (List.getElem_mem _)
          have HLt := Lib.hid hLt
          clear hLt
          generalize es4[t] = q at *
          obtain ⟨u, v⟩ := q
          dsimp only at hqh
          have kq : Blk m5.w gq #[.int .i64 u, .int .i64 v] 3 := hqh
          have q0 := kq.cell 0
          have q1 := kq.cell 1
          simp at q0 q1
          have hgq := kq.lt
          have hcLt := hcL t _ hq1
          have hgl9 : ∃ g9, xL[0]? = some (.slice (some ⟨g9, 0, none⟩) 2 2) ∧ m.w.heap.size ≤ g9 ∧ m5.w.cell? ⟨gl, 0, none⟩ = some (.slice (some ⟨g9, 0, none⟩) 2 2) := by
            obtain ⟨g9, h9, -⟩ := hVL.2 0 _ (List.getElem?_eq_getElem (by omega))
            obtain ⟨g8, n9, c9, h8, e9⟩ := HhFL.out _ (List.mem_of_getElem? h9)
            simp only [Value.slice.injEq, Option.some.injEq, Addr.mk.injEq] at e9
            exact ⟨g9, h9, by omega, hcL 0 _ h9⟩
          have hFd := implIndex_any (es ++ ds) (u, v) (.slice (some ⟨gq, 0, none⟩) 2 2) xs2 ao2 W1.heap.size cap2 m5.w st5.o st5.v hx2 ⟨gq, rfl, hgq, q0, q1⟩
          have HM := Lib.hid (fdV_neg (es := es ++ ds) (p := (u, v)))
          generalize fdV (es ++ ds) (u, v) = D at *
          clear hcL
          have Hst5 := Lib.hid st5
          clear st5
          have HhF5 := Lib.hid hF5
          clear hF5
          have HhC5 := Lib.hid hC5
          clear hC5
          have HhOL := Lib.hid hOL
          clear hOL
          have HhVL := Lib.hid hVL
          clear hVL
          have Hkq := Lib.hid kq
          clear kq
          have Hhgl9 := Lib.hid hgl9
          clear hgl9
          go_wp2_with fail
          refine hFd.mono ?_
          rintro e w6 ⟨rfl, hB6⟩
          have st6 := Hst5.out.below hB6
          have hOL6 := HhOL.out.below hB6
          have hVL6 := HhVL.out.below hB6
          have hq6 : w6.heap[gq]? = some (.cells #[.int .i64 u, .int .i64 v] 3) := (hB6.block gq hgq).trans Hkq.out
          have hgl6 := Nat.lt_of_lt_of_le hgl hB6.size
          have hm6 : W1.heap.size ≤ w6.heap.size := Nat.le_trans hm5 hB6.size
          have hcl6 : ∃ g9, xL[0]? = some (.slice (some ⟨g9, 0, none⟩) 2 2) ∧ m.w.heap.size ≤ g9 ∧ w6.cell? ⟨gl, 0, none⟩ = some (.slice (some ⟨g9, 0, none⟩) 2 2) := by
            obtain ⟨g9, h1, h2, h3⟩ := Hhgl9.out
            exact ⟨g9, h1, h2, (hB6.cell (p := ⟨gl, 0, none⟩) hgl).trans h3⟩
          have hgq6 := Nat.lt_of_lt_of_le hgq hB6.size
          have hcLt6 := (hB6.cell (p := ⟨gl, t, none⟩) hgl).trans hcLt
          obtain ⟨m6, rfl⟩ : ∃ m6 : Later W1, m6.w = w6 := ⟨m5.on hB6, rfl⟩
          clear hFd Hst5 HhOL HhVL Hkq Hhgl9 hB6 hcLt q0 q1 hgl hgq
          have HhOL6 := Lib.hid hOL6
          clear hOL6
          have HhVL6 := Lib.hid hVL6
          clear hVL6
          have Hhcl6 := Lib.hid hcl6
          clear hcl6
          by_cases hD : D < 0
          · have d1 : decide (D < 0) = true := decide_eq_true hD
            have HNm := Lib.hid (HM.out.1 hD)
            have hO6 := st6.o
            have hf6 := st6.f
            have hml := (List.getElem?_eq_some_iff.1 st6.minus).1
            have Hst6 := Lib.hid st6
            clear st6
            have Hhq6 := Lib.hid hq6
            clear hq6
            go_wp2_with (first | (at_builtin; refine wpList_append_row rfl _ _ rfl W1.heap.size (.slice ao2 xs2.length cap2) xs2 (.slice (some ⟨gq, 0, none⟩) 2 2) rfl rfl hO6 (by show Value.slice _ _ _ = _; simp) hm6 hx2 ?_; intro ao1 cap1 w7 hown7 hB7 hG7; obtain ⟨hV7, hF7, hK7⟩ := Hst6.out.push1 Hhq6.out hG7; have hs7 : m6.w.heap.size + 1 ≤ w7.heap.size := (by have := hG7.size; simpa using this)) | (at_builtin; go_must (refine wpList_append_L rfl _ _ rfl W1.heap.size (.slice fo2 F2.length fc2) F2 (k : Int) rfl (hF7.below ((Below.refl _ _).alloc (Nat.le_refl _) _)) rfl (by omega) hF2 F2.length rfl ?_); intro g8 c8 w8 hO8 hG8 hg8; obtain ⟨st8, hK8⟩ := FoSt.push2 Hst6.out hown7 hV7 hF7 (by omega) hG8 hO8))
            have hA7 : Below w7.heap.size w7 (w7.alloc (.cells #[.int .i64 k] 3)) := (Below.refl _ _).alloc (Nat.le_refl _) _
            have hB8 : Below W1.heap.size w7 w8 := (hA7.mono (by omega)).trans (grown_below (hF7.below hA7) hG8 (by simp; omega))
            have hBe := m6.below.trans (hB7.trans hB8)
            have hV8 : ValsOf w8 xL es4 := KeepsNat.vals (fun q hq ⟨z, hz⟩ => hK8 q hq (by rw [hz]; simp)) (KeepsNat.vals (fun q hq ⟨z, hz⟩ => hK7 q hq (by rw [hz]; simp)) HhVL6.out)
            have hOL8 : OwnVF w8 m.w.heap.size (some ⟨gl, 0, none⟩) cL xL := by
              obtain ⟨g9, e0, hg9, e1⟩ := Hhcl6.out
              have e2 := hK7 gl hgl6 (by rw [e1]; intro h; simp only [Option.some.injEq, Value.slice.injEq, Addr.mk.injEq] at h; omega)
              have e3 := hK8 gl (by omega) (by rw [World.cell?_of_block (w := m6.w) e2, e1]; simp)
              rcases HhOL6.out with ⟨h1, h2⟩ | ⟨h1, -⟩
              · exact .inl ⟨h1, h2.keptW (by omega) fun g e => by cases e; exact e3.trans e2⟩
              · rw [h1] at e0; simp at e0
            go_roundw
            case rel =>
              refine ⟨⟨⟨w8, hBe⟩, rfl⟩, t + 1, ds ++ [(u, v)], xs2 ++ [_], F2 ++ [(k : Int)], _, _, _, _, by go_num, by rw [List.length_append]; rfl, by rw [List.length_append]; rfl, by omega, by rw [← List.append_assoc]; exact st8, by rw [← List.append_assoc]; exact HLs.out _ _ (List.mem_append_left _ hpm) HhF5.out hLm HNm.out, fun j q' hj hq' => ?_, hOL8, hV8⟩
              rw [← List.append_assoc]
              by_cases e : j = t
              · subst e
                rw [HLt.out] at hq'
                cases hq'
                exact List.mem_append_right _ (List.mem_singleton.2 rfl)
              · exact List.mem_append_left _ (HhC5.out j q' (by omega) hq')
            case measure => simp [intOf]; omega
          · have d1 : decide (D < 0) = false := decide_eq_false hD
            have hmem : (u, v) ∈ es ++ ds := Classical.byContradiction fun h => hD (HM.out.2 h)
            have Hst6 := Lib.hid st6
            clear st6
            have Hhq6 := Lib.hid hq6
            clear hq6
            go_wp2_with fail
            go_roundw
            case rel =>
              refine ⟨⟨m6, rfl⟩, t + 1, ds, xs2, F2, _, _, _, _, by go_num, rfl, rfl, by omega, Hst6.out, HhF5.out, fun j q' hj hq' => ?_, HhOL6.out, HhVL6.out⟩
              by_cases e : j = t
              · subst e
                rw [HLt.out] at hq'
                cases hq'
                exact hmem
              · exact HhC5.out j q' (by omega) hq'
            case measure => simp [intOf]; omega
        · obtain rfl : t = xL.length := by omega
          have Hst5 := Lib.hid st5
          clear st5
          have HhF5 := Lib.hid hF5
          clear hF5
          have HhC5 := Lib.hid hC5
          clear hC5
          have HhOL := Lib.hid hOL
          clear hOL
          have HhVL := Lib.hid hVL
          clear hVL
          go_wp2_with fail
          go_roundw
          case rel =>
            have hkl : k < es.length := by have := Hhlen.out; omega
            refine ⟨⟨m5, rfl⟩, k + 1, es ++ ds, xs2, F2, _, _, _, _, by go_num, rfl, rfl, Hst5.out, HhF5.out, by rw [List.length_append]; omega, fun j p' hj hp' q hq => ?_⟩
            rw [List.getElem?_append_left (by omega)] at hp'
            by_cases e : j = k
            · subst e
              rw [HEk.out] at hp'
              cases hp'
              dsimp only at hq
              rw [HLd.out] at hq
              obtain ⟨i, hi, e2⟩ := List.mem_iff_getElem.1 ((HLe.out q).2 hq)
              exact HhC5.out i q (by have := HLn.out; omega) (by rw [List.getElem?_eq_getElem hi, e2])
            · exact List.mem_append_left _ (HCo.out j p' (by omega) hp' q hq)
          case measure => simp [intOf]; omega
    · obtain rfl : k = es.length := by omega
      have Hst := Lib.hid st
      clear st
      have HhF := Lib.hid hF
      clear hF
      have HhC := Lib.hid hC
      clear hC
      go_wp2_with fail
      go_ret2
      exact ⟨es, ao, cap, xs, _, rfl, HhF.out, fun p hp q hq => by
        obtain ⟨j, hj, e⟩ := List.mem_iff_getElem.1 hp
        exact HhC.out j p hj (by rw [List.getElem?_eq_getElem hj, e]) q hq, below_later HhB.out m, Hst.out.o.mono (Nat.le_of_lt hb0), Hst.out.v, Hst.out.fresh⟩

end Go.Proofs.YtjikmjhpmkakoaaGreatDoor
