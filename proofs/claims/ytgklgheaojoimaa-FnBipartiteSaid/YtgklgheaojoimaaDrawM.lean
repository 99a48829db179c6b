/-
  The drawing of a graph and a list of pairs: DrawIsMatching. For texts of at most 2^20 bytes.
-/
import Derived.Test.YtgklgheaojoimaaDrawB
import Derived.Test.YtgklgheaojoimaaMatchM
namespace Go.Proofs.Ytgklgheaojoimaa
open Go.RowKit

theorem OwnV.onlyB {w w' : World} {base : Nat} {v : Value} {xs : List Value} {X : Nat → Prop} (h : OwnV w base v xs) (k : Only X w.heap.size w w') (hX : ∀ b, X b → b < base) : OwnV w' base v xs := by
  obtain ⟨h0, h1 | ⟨g, cap, cur, hv, hg, hh, r⟩⟩ := h
  · exact ⟨h0, .inl h1⟩
  · exact ⟨h0, .inr ⟨g, cap, cur, hv, hg, by rw [k.block g (Array.getElem?_eq_some_iff.1 hh).1 (fun e => by have := hX g e; omega)]; exact hh, r⟩⟩
theorem ValsOf.only {X : Nat → Prop} {w w' : World} {xs : List Value} {es : List (Nat × Nat)} (h : ValsOf w xs es) (hO : Only X w.heap.size w w') (hX : ∀ (g : Nat) (e : Nat × Nat), Blk w g #[.int .i64 e.1, .int .i64 e.2] 3 → ¬X g) : ValsOf w' xs es :=
  ⟨h.1, fun k e he => by
    obtain ⟨g, h1, h2⟩ := h.2 k e he
    have k0 : Blk w g #[.int .i64 e.1, .int .i64 e.2] 3 := h2
    exact ⟨g, h1, (hO.block g k0.lt (hX g e k0)).trans h2⟩⟩
theorem pair_not {w : World} {g : Nat} {e : Nat × Nat} {cs : Array Value} {T : TypeId} (h : Blk w g #[.int .i64 e.1, .int .i64 e.2] 3) (k : Blk w g cs T) : cs = #[.int .i64 e.1, .int .i64 e.2] := by
  unfold Blk at h k
  rw [h] at k
  simp at k
  exact k.1.symm
/-- Pairs behind a list of the call's own stay when the cursor moves and a graph is stored. -/
theorem ValsOf.moved {w w' : World} {cb r n c n1 c1 : Nat} {a a1 : Option Addr} {xs : List Value} {es : List (Nat × Nat)} {i j u : Int} {T T1 : TypeId} (h : ValsOf w xs es) (hO : Only (fun b => b = cb ∨ b = r) w.heap.size w w')
    (kc : Blk w cb #[.slice a n c, .int .i64 i, .int .i64 j] T) (kr : Blk w r #[.int .i64 u, .slice a1 n1 c1] T1) : ValsOf w' xs es :=
  h.only hO fun g e k hx => by
    rcases hx with rfl | rfl
    · have := pair_not k kc; simp at this
    · have := pair_not k kr; simp at this
theorem rows_more {w : World} {base cap G : Nat} {ao : Option Addr} {xs : List Value} {es : List (Nat × Nat)} (ho : OwnV w base (.slice ao (xs.length + 1) cap) (xs ++ [.slice (some ⟨G, 0, none⟩) 1 1])) (hv : ValsOf w xs es) (hk : Blk w G #[.int .i64 0] 3) : RowsAt w ao (lsOf es ++ [[0]]) := fun h0 => by
  obtain ⟨g, rfl, -, hg, hc⟩ := ho.cells (by simp)
  refine ⟨g, 0, rfl, hg, fun k hk2 => ?_⟩
  rw [List.length_append, lsOf_len] at hk2
  rw [Nat.zero_add]
  by_cases h : k < es.length
  · obtain ⟨g2, h1, h2⟩ := hv.pair h
    have e : rowL (lsOf es ++ [[0]]) k = rowL (lsOf es) k := by
      unfold rowL
      rw [List.getD_eq_getElem?_getD, List.getD_eq_getElem?_getD, List.getElem?_append_left (by rw [lsOf_len]; exact h)]
    rw [e, lsOf_at h]
    exact ⟨some ⟨g2, 0, none⟩, 2, hc k _ (by rw [List.getElem?_append_left (by rw [hv.1]; exact h)]; exact h1), h2⟩
  · obtain rfl : k = es.length := by simp at hk2; omega
    have e : rowL (lsOf es ++ [[0]]) es.length = [0] := by
      unfold rowL
      rw [List.getD_eq_getElem?_getD, List.getElem?_append_right (by rw [lsOf_len]; exact Nat.le_refl _), lsOf_len]; simp
    rw [e]
    have hI : OwnInts w G [0] := hk
    exact ⟨some ⟨G, 0, none⟩, 1, hc _ _ (by rw [List.getElem?_append_right (by rw [hv.1]; exact Nat.le_refl _), hv.1]; simp), hI.ints⟩

theorem Blk.grownV {w w' : World} {base b : Nat} {v : Value} {zs : List Value} {cs : Array Value} (h : Blk w b cs 3) (ho : OwnV w base v zs) (hg : w.grownBy w' v.ownBlock) : Blk w' b cs 3 := by
  refine (hg.block b h.lt ?_).trans h
  intro e
  unfold Blk at h
  obtain ⟨-, ⟨h1, -⟩ | ⟨g2, cp, cur, hv, -, hh, -⟩⟩ := ho
  · rw [h1] at e; cases e
  · rw [hv] at e
    simp only [Value.ownBlock, Option.some.injEq] at e
    subst e
    rw [h] at hh
    simp at hh

/-- A graph and a list of lists have been drawn. -/
def RetGM (w : World) (e : Ending) (w' : World) : Prop :=
  ∃ (x : Int) (f : List Int) (ls : List (List Int)) (g cap : Nat) (lo : Option Addr) (lc : Nat), (1 ≤ f.length ∧ f.length ≤ 6) ∧ ls.length ≤ 1048576 ∧ e = .returned (.tuple #[.agg #[.int .i64 x, .slice (some ⟨g, 0, none⟩) f.length cap], .slice lo ls.length lc]) ∧ RowAt w' g cap f ∧ RowsAt w' lo ls ∧ Below w.heap.size w w'

set_option maxRecDepth 100000 in
set_option maxHeartbeats 8000000 in
theorem DrawIsMatching_any (n c : Nat) (bo : Option Addr) (w : World) (h : BytesU w.heap.size w bo n) (hn : n ≤ 1048576) :
    Calls Try.prog 25 #[.slice bo n c] w (RetGM w) := by
  go_enter Try.func25, Try.ntmps25
  go_wp2_with fail
  generalize hW : World.alloc _ _ = W1
  obtain ⟨hB, hs, k0⟩ := alloc1 hW
  have hs1 : w.heap.size < W1.heap.size := by omega
  have hb1 : BytesU W1.heap.size W1 bo n := (h.only (Only.of (X := fun _ => False) hB) fun _ _ h => h).mono (by omega)
  clear hW hs
  refine (l1New_any n c bo W1 hb1 hn).mono ?_
  rintro e w1 ⟨cb, rfl, hB1, hcb, hC⟩
  replace k0 := k0.below hB1 hs1
  have hs2 := hB1.size
  replace hB := hB.trans (hB1.mono (by omega))
  have hcl := hC.lt
  clear hb1 hB1 h
  go_wp2_with fail
  refine (l20Graph_any cb n c bo w1 hC).mono ?_
  rintro e w2 ⟨x, f, g, cap, hf, rfl, hg, hR, hD⟩
  have hsz := hD.only.size
  have hO := hD.only.mono (Nat.le_refl _) (Y := fun b => b = cb ∨ b = w.heap.size) fun _ _ e => .inl e
  have hC2 := hD.cur
  replace k0 := hD.blk k0 (by omega)
  clear hD hC
  go_wp2_with fail
  generalize hWb : World.alloc _ _ = Wb
  obtain ⟨hBb, hzb, kb⟩ := alloc1 hWb
  have hg4 : g < w2.heap.size := hR.lt
  replace hC2 := hC2.below hBb
  replace hO := hO.more hBb hsz
  have hR1 := hR.below hBb
  replace k0 := k0.below hBb (by omega)
  clear hWb hBb hR
  have hF := specMatchOf_any x f (some ⟨g, 0, none⟩) cap Wb hR1.ints (by omega)
  have hFE := fun (w' : World) (hr : IntsAt w' (some ⟨g, 0, none⟩) f) => specEdges_all x f (some ⟨g, 0, none⟩) cap w' hr (by omega)
  obtain ⟨es1, es2⟩ := edgesV_small (n := x) (rs := f)
  have hml := Nat.le_trans (bestM_len (edgesV x f) 0) es2
  generalize bestM (edgesV x f) 0 = M at *
  generalize edgesV x f = E at *
  generalize w2.heap.size = yb at *
  have hyl := kb.lt
  have x0 := kb.cell 0
  have x1 := kb.cell 1
  simp at x0 x1
  have HhB := Lib.hid hB
  clear hB
  have HhO := Lib.hid hO
  clear hO
  have Hk0 := Lib.hid k0
  clear k0
  have HhR1 := Lib.hid hR1
  clear hR1
  have Hkb := Lib.hid kb
  clear kb
  have HhC2 := Lib.hid hC2
  clear hC2
  have HhFE := Lib.hid hFE
  clear hFE
  go_wp2_with fail
  refine hF.mono ?_
  rintro e w3 ⟨lo, lc, xs, rfl, hB3, hL, hV⟩
  clear hF x0 x1
  have hs3 := hB3.size
  have hO3 := HhO.out.more hB3 (by omega)
  have hC3 := HhC2.out.below hB3
  have hR3 := HhR1.out.below hB3
  have k3 := Hk0.out.below hB3 (by omega)
  have kb3 := Hkb.out.below hB3 hyl
  clear HhO HhC2 HhR1 Hk0 Hkb hB3
  have Hhxl := Lib.hid hV.1
  -- the end: a graph and a list
  have hfin : ∀ (wr : World) (ls : List (List Int)) (lo : Option Addr) (lc : Nat), Only (fun b => b = cb ∨ b = w.heap.size) w1.heap.size w1 wr → RowAt wr g cap f → RowsAt ((wr.setCell ⟨w.heap.size, 0, none⟩ (.int .i64 x)).setCell ⟨w.heap.size, 1, none⟩ (.slice (some ⟨g, 0, none⟩) f.length cap)) lo ls → ls.length ≤ 1048576 →
      Hid (RetGM w (.returned (.tuple #[.agg #[.int .i64 x, .slice (some ⟨g, 0, none⟩) f.length cap], .slice lo ls.length lc])) ((wr.setCell ⟨w.heap.size, 0, none⟩ (.int .i64 x)).setCell ⟨w.heap.size, 1, none⟩ (.slice (some ⟨g, 0, none⟩) f.length cap))) := fun wr ls lo lc hO hR hL hl => Lib.hid
    ⟨x, f, ls, g, cap, lo, lc, hf, hl, rfl, (hR.otherCell (by simp; omega)).otherCell (by simp; omega), hL, ((HhB.out.trans (hO.below (by omega) fun b hb e => by rcases e with e | e <;> omega)).setCell (by simp) _).setCell (by simp) _⟩
  have Hfin := Lib.hid hfin
  have hS : ∀ wr : World, Only (fun b => b = cb ∨ b = w.heap.size) wr.heap.size wr ((wr.setCell ⟨w.heap.size, 0, none⟩ (.int .i64 x)).setCell ⟨w.heap.size, 1, none⟩ (.slice (some ⟨g, 0, none⟩) f.length cap)) := fun wr =>
    ((Only.refl (fun b => b = cb ∨ b = w.heap.size) _ _).setCell (p := ⟨w.heap.size, 0, none⟩) (.inl (.inr rfl)) _).setCell (p := ⟨w.heap.size, 1, none⟩) (.inl (.inr rfl)) _
  have HS := Lib.hid hS
  clear hfin HhB hS
  go_wp2_with fail
  refine (l1Once_any 3 cb n c bo w3 hC3 (by omega) (by omega)).mono ?_
  rintro e w4 ⟨b3, rfl, hD4⟩
  have hO4 := hO3.trans (hD4.only.mono (by have := hO3.size; omega) fun _ _ e => .inl e)
  have hR4 := hD4.row hR3 (by omega)
  have k4 := hD4.blk k3 (by omega)
  have kb4 := hD4.blk kb3 (by omega)
  have hC4 := hD4.cur
  obtain ⟨i3, j3, -, kc3⟩ := hC3.box
  have hV4 := hV.moved (hD4.only.mono (Nat.le_refl _) fun _ _ e => .inl e) kc3 k3
  have hL4 := hL.onlyB (X := fun b => b = cb) hD4.only (fun b e => by have e2 : b = cb := e; omega)
  clear hO3 hC3 hR3 k3 kb3 hL hV hD4 kc3
  cases b3
  · go_wp2_with fail
    refine (l1Once_any 8 cb n c bo w4 hC4 (by omega) (by omega)).mono ?_
    rintro e w5 ⟨b8, rfl, hD5⟩
    have hO5 := hO4.trans (hD5.only.mono (by have := hO4.size; omega) fun _ _ e => .inl e)
    have hR5 := hD5.row hR4 (by omega)
    have k5 := hD5.blk k4 (by omega)
    have kb5 := hD5.blk kb4 (by omega)
    have hC5 := hD5.cur
    obtain ⟨i3, j3, -, kc4⟩ := hC4.box
    have hV5 := hV4.moved (hD5.only.mono (Nat.le_refl _) fun _ _ e => .inl e) kc4 k4
    have hL5 := hL4.onlyB (X := fun b => b = cb) hD5.only (fun b e => by have e2 : b = cb := e; omega)
    clear hO4 hC4 hR4 k4 kb4 hL4 hV4 hD5 kc4
    cases b8
    · have HE := Hfin.out w5 (lsOf M) (some lo) lc hO5 hR5 (rowsL_of (hL5.onlyB (HS.out w5) (fun b e => by rcases e with e | e <;> omega)) (hV5.moved (HS.out w5) (Classical.choose_spec (Classical.choose_spec hC5.box)).2 k5)) (by rw [lsOf_len]; omega)
      rw [lsOf_len, ← Hhxl.out] at HE
      have x0 := kb5.cell 0
      have x1 := kb5.cell 1
      have x4 := kb5.lt
      have y0 := k5.cell 0
      have y1 := k5.cell 1
      have y2 := k5.frozen 0
      have y3 := k5.frozen 1
      have y4 := k5.lt
      simp at x0 x1 y0 y1
      clear k5 kb5 hO5 hR5 hC5 Hfin hL5 hV5 HS HhFE
      go_wp2_with fail
      refine bodyPost_ret (v := .tuple #[.agg #[.int .i64 x, .slice (some ⟨g, 0, none⟩) f.length cap], .slice (some lo) xs.length lc]) (by simp [results, Try.results25, go_sem, y0, y1]) rfl ?_
      exact HE.out
    · have hs5 := hO5.size
      have hcl5 := hC5.lt
      have hyl5 := kb5.lt
      have hr5 := k5.lt
      have hxs : xs.length ≤ 1048576 := by have := Hhxl.out; omega
      obtain ⟨i5, j5, -, kc5⟩ := hC5.box
      have hr : w.heap.size < Wb.heap.size := by omega
      have hF6 : ∀ (ao' : Option Addr) (cap' : Nat) (w6 : World), OwnV w6 Wb.heap.size (.slice ao' (xs.length + 1) cap') (xs ++ [.slice (some ⟨w5.heap.size, 0, none⟩) 1 1]) → Below Wb.heap.size (w5.alloc (.cells #[.int .i64 0] 3)) w6 →
          ((w5.alloc (.cells #[.int .i64 0] 3)).alloc (.cells #[.slice (some ⟨w5.heap.size, 0, none⟩) 1 1] 24)).grownBy w6 (Value.slice (some lo) xs.length lc).ownBlock →
          (w6.cell? ⟨yb, 0, none⟩ = some (.int .i64 x) ∧ w6.cell? ⟨yb, 1, none⟩ = some (.slice (some ⟨g, 0, none⟩) f.length cap) ∧ yb < w6.heap.size) ∧ (w6.cell? ⟨w.heap.size, 0, none⟩ = some (.int .i64 0) ∧ w6.cell? ⟨w.heap.size, 1, none⟩ = some (.slice none 0 0) ∧ w6.frozen? ⟨w.heap.size, 0, none⟩ = false ∧ w6.frozen? ⟨w.heap.size, 1, none⟩ = false ∧ w.heap.size < w6.heap.size) ∧
          Hid (RetGM w (.returned (.tuple #[.agg #[.int .i64 x, .slice (some ⟨g, 0, none⟩) f.length cap], .slice ao' (xs.length + 1) cap'])) ((w6.setCell ⟨w.heap.size, 0, none⟩ (.int .i64 x)).setCell ⟨w.heap.size, 1, none⟩ (.slice (some ⟨g, 0, none⟩) f.length cap))) := fun ao' cap' w6 hO6 hB6 hG6 => by
        have kb6 := (kb5.alloc _).below hB6 hyl
        have k6 := (k5.alloc _).below hB6 hr
        have kc6 := (kc5.alloc _).below hB6 (by omega)
        have hR6 : RowAt w6 g cap f := ((hR5.below ((Below.refl _ _).alloc (Nat.le_refl _) _))).onlyB (Only.from hB6) (by omega)
        have hO16 : Only (fun b => b = cb ∨ b = w.heap.size) w1.heap.size w1 w6 := (hO5.more ((Below.refl _ _).alloc (Nat.le_refl _) _) hs5).more hB6 (by omega)
        have hA : ∀ o : Obj, Below w5.heap.size w5 (w5.alloc o) := fun o => (Below.refl _ _).alloc (Nat.le_refl _) _
        have hLL : OwnV ((w5.alloc (.cells #[.int .i64 0] 3)).alloc (.cells #[.slice (some ⟨w5.heap.size, 0, none⟩) 1 1] 24)) Wb.heap.size (.slice (some lo) xs.length lc) xs := (hL5.alloc _).alloc _
        have hV6 : ValsOf w6 xs M := ((hV5.below (hA _)).below ((Below.refl _ _).alloc (Nat.le_refl _) _)).grown hLL hG6
        have hK6 : Blk w6 w5.heap.size #[.int .i64 0] 3 := ((Blk.made w5 _ _ rfl).alloc _).grownV hLL hG6
        have hfo := hO6.onlyB (HS.out w6) (fun b e => by rcases e with e | e <;> omega)
        have hfv := hV6.moved (HS.out w6) kc6 k6
        have hfk := (HS.out w6).blk hK6 hK6.lt (fun e => by rcases e with e | e <;> omega)
        have HE := Hfin.out w6 (lsOf M ++ [[0]]) ao' cap' hO16 hR6 (rows_more hfo hfv hfk) (by simp [lsOf_len]; omega)
        rw [List.length_append, lsOf_len, ← Hhxl.out] at HE
        refine ⟨⟨by simpa using kb6.cell 0, by simpa using kb6.cell 1, kb6.lt⟩, ⟨by simpa using k6.cell 0, by simpa using k6.cell 1, k6.frozen 0, k6.frozen 1, k6.lt⟩, HE⟩
      have HL5 := Lib.hid hL5
      have hbase : Wb.heap.size ≤ w5.heap.size := by omega
      have x0 := kb5.cell 0
      have x1 := kb5.cell 1
      simp at x0 x1
      clear hR5 hC5 kb5 k5 hV5 hO5 hL5 kc5
      have HhF6 := Lib.hid hF6
      clear hF6
      have hb6 : ∀ o : Obj, Wb.heap.size ≤ (w5.alloc o).heap.size := fun o => by simp; omega
      go_wp2_with (at_builtin; go_must (refine wpList_append_row rfl _ _ rfl Wb.heap.size (.slice (some lo) xs.length lc) xs _ rfl rfl (HL5.out.alloc _) (by show Value.slice _ _ _ = _; simp) (hb6 _) hxs ?_); intro ao' cap' w6 hO6 hB6 hG6; obtain ⟨⟨z0, z1, z4⟩, ⟨r0, r1, r2, r3, r4⟩, HE⟩ := HhF6.out ao' cap' w6 hO6 hB6 hG6; clear hO6 hB6 hG6)
      refine bodyPost_ret (v := .tuple #[.agg #[.int .i64 x, .slice (some ⟨g, 0, none⟩) f.length cap], .slice ao' (xs.length + 1) cap']) (by simp [results, Try.results25, go_sem, r0, r1]) rfl ?_
      exact HE.out
  · have hyW := kb4.lt
    have h0W := k4.lt
    have hsW := hO4.size
    have hkb := kb4
    have hcW := hC4.lt
    have hT0 : ∀ w', Only (fun b => b = cb ∨ b = w.heap.size) w4.heap.size w4 w' → w'.cell? ⟨yb, 0, none⟩ = some (.int .i64 x) ∧ w'.cell? ⟨yb, 1, none⟩ = some (.slice (some ⟨g, 0, none⟩) f.length cap) := fun w' h => by
      have := h.blk hkb hyW (fun e => by rcases e with e | e <;> omega)
      exact ⟨by simpa using this.cell 0, by simpa using this.cell 1⟩
    have hX0 : ∀ (w' : World), Only (fun b => b = cb ∨ b = w.heap.size) w4.heap.size w4 w' → Only (fun b => b = cb ∨ b = w.heap.size) w4.heap.size w4 ((w'.setCell ⟨w.heap.size, 0, none⟩ (.int .i64 x)).setCell ⟨w.heap.size, 1, none⟩ (.slice (some ⟨g, 0, none⟩) f.length cap)) := fun w' h => (h.setCell (p := ⟨w.heap.size, 0, none⟩) (.inl (.inr rfl)) _).setCell (p := ⟨w.heap.size, 1, none⟩) (.inl (.inr rfl)) _
    have hED := HhFE.out w4.drew (show IntsAt w4.drew _ f from hR4.ints)
    have HX := Lib.hid hX0
    have Hk0 := Lib.hid k4
    have HO := Lib.hid hO4
    have HR := Lib.hid hR4
    have HC4 := Lib.hid hC4
    have z0 := kb4.cell 0
    have z1 := kb4.cell 1
    have z4 := kb4.lt
    simp at z0 z1
    clear hX0 hkb kb4 k4 hR4 hO4 hV4 hL4 hC4 HhFE
    go_wp2_with fail
    have hO0 : Only (fun b => b = cb ∨ b = w.heap.size) w4.heap.size w4 w4.drew := Only.of (Below.refl _ _).drew
    refine wp_region_B (fun w' => Only (fun b => b = cb ∨ b = w.heap.size) w4.heap.size w4 w' ∧ w'.cell? ⟨yb, 0, none⟩ = some (.int .i64 x) ∧ w'.cell? ⟨yb, 1, none⟩ = some (.slice (some ⟨g, 0, none⟩) f.length cap)) (fun _ => True) [] (by kernel_rfl) (⟨hO0, hT0 _ hO0⟩) (trivial) (fun hM => ?_)
    refine wpAnyB_take (i := 0) (v := ?_) false rfl (by kernel_rfl) (by kernel_rfl) (by kernel_rfl) (by kernel_rfl) (by kernel_rfl) (fun _ _ _ h => h) (Or.inl ⟨by rfl, ?_⟩) hM (fun hM2 => ?_)
    rotate_left
    · (intro w hSw; replace hSw := hSw.1; (try dsimp only at hSw); go_simp; try with_reducible rfl)
    replace hM := hM2
    clear hM2
    try simp only [List.getElem_toArray, List.getElem_cons_zero, Act.put, List.setIfInBounds_toArray, List.set_cons_zero, List.set_cons_succ]
    refine wpAnyB_take (i := 1) (v := ?_) false rfl (by kernel_rfl) (by kernel_rfl) (by kernel_rfl) (by kernel_rfl) (by kernel_rfl) (fun _ _ _ h => h) (Or.inl ⟨by rfl, ?_⟩) hM (fun hM2 => ?_)
    rotate_left
    · (intro w hSw; replace hSw := hSw.1; (try dsimp only at hSw); go_simp; try with_reducible rfl)
    replace hM := hM2
    clear hM2
    try simp only [List.getElem_toArray, List.getElem_cons_succ, List.getElem_cons_zero, Act.put, List.setIfInBounds_toArray, List.set_cons_zero, List.set_cons_succ]
    refine wpAnyB_one (i := 2) (by kernel_rfl) rfl (fun K hK => ?_)
    (go_simp; go_at_call 91; refine hED.mono ?_; rintro e w5 ⟨ao2, cap2, xs2, rfl, hB5, hOw2, hV2⟩; have hO5 : Only (fun b => b = cb ∨ b = w.heap.size) w4.heap.size w4 w5 := hO0.trans (Only.of hB5); dsimp only)
    refine hK.out _ _ (meetB.both ⟨hO5, hT0 _ hO5⟩ trivial) (fun hM2 => ?_)
    clear hK K
    replace hM := hM2
    clear hM2
    try simp only [List.getElem_toArray, List.getElem_cons_succ, List.getElem_cons_zero, Act.put, List.setIfInBounds_toArray, List.set_cons_zero, List.set_cons_succ]
    have k5 := (show Blk w4.drew _ _ _ from Hk0.out).below hB5 h0W
    obtain ⟨i4, j4, -, kc4⟩ := HC4.out.box
    have kc5 := (show Blk w4.drew _ _ _ from kc4).below hB5 hcW
    have x0 := k5.cell 0
    have x1 := k5.cell 1
    have x2 := k5.frozen 0
    have x3 := k5.frozen 1
    have x4 := k5.lt
    simp at x0 x1
    refine wpAnyB_one (i := 3) (by kernel_rfl) rfl (fun K hK => ?_)
    go_simp
    refine hK.out _ _ (meetB.both ⟨HX.out _ hO5, hT0 _ (HX.out _ hO5)⟩ trivial) (fun hM2 => ?_)
    clear hK K
    replace hM := hM2
    clear hM2
    try simp only [List.getElem_toArray, List.getElem_cons_succ, List.getElem_cons_zero, Act.put, List.setIfInBounds_toArray, List.set_cons_zero, List.set_cons_succ]
    refine wpAnyB_take (i := 4) (v := ?_) false rfl (by kernel_rfl) (by kernel_rfl) (by kernel_rfl) (by kernel_rfl) (by kernel_rfl) (fun _ _ _ h => h) (Or.inl ⟨by rfl, ?_⟩) hM (fun hM2 => ?_)
    rotate_left
    · (intro w hSw; replace hSw := hSw.1; (try dsimp only at hSw); go_simp; try with_reducible rfl)
    replace hM := hM2
    clear hM2
    try simp only [List.getElem_toArray, List.getElem_cons_succ, List.getElem_cons_zero, Act.put, List.setIfInBounds_toArray, List.set_cons_zero, List.set_cons_succ]
    refine wpAnyB_done (by kernel_rfl) ?_ _
    have hdr : w4.drew.heap.size = w4.heap.size := rfl
    have hE2 := hV2.1
    have HE := Hfin.out w5 (lsOf E) _ cap2 (HO.out.trans (hO5.mono hsW fun _ _ e => e)) ((show RowAt w4.drew g cap f from HR.out).below hB5) (rowsL_of (hOw2.onlyB (HS.out w5) (fun b e => by rcases e with e | e <;> omega)) (hV2.moved (HS.out w5) kc5 k5)) (by rw [lsOf_len]; omega)
    rw [lsOf_len, ← hE2] at HE
    have k6 : Blk ((w5.setCell ⟨w.heap.size, 0, none⟩ (.int .i64 x)).setCell ⟨w.heap.size, 1, none⟩ (.slice (some ⟨g, 0, none⟩) f.length cap)) w.heap.size #[.int .i64 x, .slice (some ⟨g, 0, none⟩) f.length cap] 26 := by
      have := (k5.store 0 (.int .i64 x)).store 1 (.slice (some ⟨g, 0, none⟩) f.length cap)
      simpa using this
    have y0 := k6.cell 0
    have y1 := k6.cell 1
    have y4 := k6.lt
    simp at y0 y1
    clear k6 k5 x0 x1 x2 x3 x4 Hfin hT0 HX Hk0 HO HR hO0 hO5 HC4 hM z0 z1 z4 hOw2 hV2 hE2 HS kc4 kc5 hB5
    generalize World.setCell _ _ _ = W9 at *
    go_wp2_with fail
    refine bodyPost_ret (v := .tuple #[.agg #[.int .i64 x, .slice (some ⟨g, 0, none⟩) f.length cap], .slice ao2 xs2.length cap2]) (by simp [results, Try.results25, go_sem, y0, y1]) rfl ?_
    exact HE.out

end Go.Proofs.Ytgklgheaojoimaa
