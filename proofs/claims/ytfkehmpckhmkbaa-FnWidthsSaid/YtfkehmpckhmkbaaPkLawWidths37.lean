/-
  FillOf and WidthOfOrder of the program. For at most 2^20 rows and list elements; the list's capacity is at least its length.
-/
import Derived.Test.YtfkehmpckhmkbaaPkLawWidths22
import Derived.Test.YtfkehmpckhmkbaaPkLawWidths36
namespace Go.Proofs.Ytfkehmpckhmkbaa
open Go.RowKit

theorem OwnV.only {w w' : World} {base : Nat} {v : Value} {xs : List Value} {X : Nat → Prop} (h : OwnV w base v xs) (k : Only X w.heap.size w w') (hX : ∀ b, X b → b < base) : OwnV w' base v xs := by
  obtain ⟨h0, h1 | ⟨g, cap, cur, hv, hg, hh, r⟩⟩ := h
  · exact ⟨h0, .inl h1⟩
  · exact ⟨h0, .inr ⟨g, cap, cur, hv, hg, by rw [k.block g (Array.getElem?_eq_some_iff.1 hh).1 (fun e => by have := hX g e; omega)]; exact hh, r⟩⟩
/-- The call's own list of slices from block 'base' on, or an empty one without room. -/
def OwnVE (w : World) (base : Nat) (ao : Option Addr) (cap : Nat) (xs : List Value) : Prop := OwnV w base (.slice ao xs.length cap) xs ∨ (xs = [] ∧ cap = 0 ∧ ao ≠ none)
theorem OwnVE.below {w w' : World} {base cap : Nat} {ao : Option Addr} {xs : List Value} (h : OwnVE w base ao cap xs) (hb : Below w.heap.size w w') : OwnVE w' base ao cap xs := h.imp (fun h => h.below hb) id
theorem OwnVE.mono {w : World} {base base' cap : Nat} {ao : Option Addr} {xs : List Value} (h : OwnVE w base ao cap xs) (hb : base' ≤ base) : OwnVE w base' ao cap xs := h.imp (fun h => h.mono hb) id
theorem OwnVE.cells {w : World} {base cap : Nat} {ao : Option Addr} {xs : List Value} (h : OwnVE w base ao cap xs) (h0 : 0 < xs.length) : ∃ g, ao = some ⟨g, 0, none⟩ ∧ base ≤ g ∧ g < w.heap.size ∧ ∀ k u, xs[k]? = some u → w.cell? ⟨g, k, none⟩ = some u := by
  rcases h with h | ⟨rfl, -, -⟩
  · exact h.cells h0
  · simp at h0
theorem wpList_append_rowe {ops : Array Oper} {rest : List Oper} {o : Oper} {a : Act} {Q : Exit → Act → World → Prop} {w : World} (hgd : o.guard = none) (s x : Operand)
    (ho : o.op = .call { callee := .builtin .append, args := #[s, x], argTypes := #[46, 46] })
    (base cap : Nat) (ao : Option Addr) (xs : List Value) (y : Value) (hy : y.oneCell' = true) (hs : a.eval s = .slice ao xs.length cap) (hown : OwnVE w base ao cap xs) (hx : a.eval x = .slice (some ⟨w.heap.size, 0, none⟩) 1 1) (hbase : base ≤ w.heap.size) (hlen : xs.length ≤ 1048576)
    (h : ∀ ao' cap' w', OwnVE w' base ao' cap' (xs ++ [y]) → Below base w w' → wpList Try.prog ops Q rest (a.put o.dst (.slice ao' (xs.length + 1) cap')) w') :
    wpList Try.prog ops Q (o :: rest) a (w.alloc (.cells #[y] 24)) := by
  have he : (xs ++ [y]).length = xs.length + 1 := by simp
  rcases hown with hown | ⟨rfl, rfl, hne⟩
  · exact wpList_append_row hgd s x ho base _ xs y hy hs hown hx hbase hlen fun ao' cap' w' h1 h2 _ => h ao' cap' w' (.inl (by rw [he]; exact h1)) h2
  · obtain ⟨i0, hi, hz0, hz1, hz2⟩ := info_parts info_row
    refine wpList_append_grows (w.alloc (.cells #[y] 24)) hgd s x 46 ho 24 i0 (.slice none 0 0) 1 24 Try.underlying46 hi hz0 hz1 hz2 rfl (by decide) ao 0 0 [] hs (fun _ => ⟨rfl, rfl⟩) rfl (by simp)
      ⟨w.heap.size, 0, none⟩ 1 1 [y] hx rfl ?_ ?_ (by omega) (by unfold maxLen; omega) (by omega) ?_
    · intro j u hj
      match j, hj with
      | 0, hj => simp at hj; subst hj; simp [Addr.add]
    · intro u hu; simp at hu; subst hu; exact hy
    · intro v' w' h1 h2
      have hb : Below base w (w.alloc (.cells #[y] 24)) := (Below.refl _ _).alloc hbase _
      have h3 : OwnV w' base v' [y] := by
        have : OwnV w' (w.heap.size + 1) v' [y] := by unfold OwnV; simpa using h1
        exact this.mono (by omega)
      obtain ⟨ao', cap', rfl⟩ := h3.form
      exact h ao' cap' w' (.inl h3) (hb.grown h2 (by simp; omega) (fun k hk => by cases hk))
theorem ValsOf.skip {w : World} {xs : List Value} {es : List (Nat × Nat)} {p : Nat × Nat → Bool} {k : Nat} {e : Nat × Nat} (h : ValsOf w xs ((es.take k).filter p)) (he : es[k]? = some e) (hp : p e = false) : ValsOf w xs ((es.take (k + 1)).filter p) := by
  have : (es.take (k + 1)).filter p = (es.take k).filter p := by rw [List.take_add_one, he]; simp [List.filter_append, hp]
  rw [this]; exact h
theorem ValsOf.take {w : World} {xs : List Value} {es : List (Nat × Nat)} {p : Nat × Nat → Bool} {k g : Nat} {e : Nat × Nat} (h : ValsOf w xs ((es.take k).filter p)) (he : es[k]? = some e) (hp : p e = true) (hg : w.heap[g]? = some (.cells #[.int .i64 e.1, .int .i64 e.2] 3)) : ValsOf w (xs ++ [.slice (some ⟨g, 0, none⟩) 2 2]) ((es.take (k + 1)).filter p) := by
  have : (es.take (k + 1)).filter p = (es.take k).filter p ++ [e] := by rw [List.take_add_one, he]; simp [List.filter_append, hp]
  rw [this]; exact h.push hg

theorem orL_bits {rs : List Int} (g : VG rs) {L v : Nat} (hL : L < 2 ^ rs.length) (hv : v < rs.length) : bits .or .i64 (gn rs v : Int) (bits .andNot .i64 (L : Int) (pwN v)) = ((gn rs v ||| nDiff L (2 ^ v) : Nat) : Int) := by
  have h7 := g.le
  have h1 := g.lt128 hv
  have hp := g.pow.1
  have h2 := nDiff_lt (b := 2 ^ v) hL
  rw [pwN_small v (by omega), bits_andNot_nat _ _ (by omega), bits_or_nat _ _ (by omega) (by omega)]

set_option maxRecDepth 100000 in
set_option maxHeartbeats 4000000 in
theorem implFill_any (rs l : List Int) (ro lo : Option Addr) (rc lc : Nat) (w : World) (ho : orderB rs.length rs l = true) (hr : IntsAt w ro rs) (hl : IntsAt w lo l) (hcap : l.length ≤ lc) :
    Calls Try.prog 47 #[.agg #[.int .i64 rs.length, .slice ro rs.length rc], .slice lo l.length lc] w fun e w' => ∃ ao cap xs, e = .returned (.tuple #[.slice ao xs.length cap, .bool true]) ∧ Below w.heap.size w w' ∧ OwnVE w' w.heap.size ao cap xs ∧ ValsOf w' xs (newEs rs (fillTo rs l l.length)) := by
  obtain ⟨hv, -, g, hlen⟩ := orderB_true ho
  have hN7 := g.le
  have hN1 := g.pos
  have hrl : rs.length ≤ 1048576 := by omega
  have hl7 : l.length ≤ 7 := by omega
  have hl1 : 0 < l.length := by omega
  obtain ⟨lb, lofs, rfl, hlb, -⟩ := hl hl1
  obtain ⟨rb, rofs, rfl, hrb, -⟩ := hr hN1
  have Hhlen := Lib.hid hlen
  clear hlen
  clear hv
  go_enter Try.func47, Try.ntmps47
  go_wp2_with fail
  generalize hW : World.alloc _ _ = W1
  obtain ⟨hB, -, k0⟩ := alloc1 hW
  replace hr := hr.below hB
  replace hl := hl.below hB
  have hO := fun m : Later W1 => implIsOrder_any rs.length rs l _ _ rc lc m.w (hr.later m) hrl (hl.later m) (by omega) hcap
  rw [ho] at hO
  have hb0 := k0.lt
  have hc0 := k0.cell 0
  have hc1 := k0.cell 1
  simp at hc0 hc1
  have hwW : w.heap.size ≤ W1.heap.size := hB.size
  have hlb1 := Nat.lt_of_lt_of_le hlb hB.size
  have hrb1 := Nat.lt_of_lt_of_le hrb hB.size
  have HO := Lib.hid ho
  clear hW k0 ho
  have HhB := Lib.hid hB
  clear hB
  obtain ⟨m, hm0⟩ : ∃ m : Later W1, m.w = W1 := ⟨Later.refl _, rfl⟩
  refine (fun h => hm0 ▸ h) ?_
  clear hm0
  go_wp2_with (first | (go_at_call 39; refine (Calls.later m (hO _)).mono ?_; rintro e w' ⟨rfl, m, rfl⟩))
  clear hO
  refine (copyGraph_any _ rs _ rc m.w (hr.later m) hrl hN1).mono ?_
  rintro e w2 ⟨g1, cap, rfl, hB2, hg1, hR⟩
  have hgl := hR.lt
  replace hg1 := Nat.le_trans m.size hg1
  replace hB2 := below_more m.below hB2
  go_wp2_with fail
  generalize hW2 : World.alloc _ _ = W2
  have hOE : OwnV W2 w2.heap.size (.slice (some ⟨w2.heap.size, 0, none⟩) 0 0) [] := by rw [← hW2]; exact (OwnV.empty w2).alloc _
  obtain ⟨hB3, hs2, -, k2⟩ := alloc2 hW2
  replace hR := hR.below hB3
  have hBW := below_more hB2 hB3
  have hBw := below_more' HhB.out hBW
  have hWo : W1.heap.size ≤ w2.heap.size := hB2.size
  replace hr := hr.below hBW
  replace hl := hl.below hBW
  replace hc1 := (hBW.cell (p := ⟨w.heap.size, 1, none⟩) hb0).trans hc1
  have hb0' := Nat.lt_of_lt_of_le hb0 hBW.size
  clear hW2 hB2 hB3 HhB hBW hc0 m
  generalize w2.heap.size = o at *
  have ob := k2.lt
  have x0 := k2.cell 0
  have x1 := k2.cell 1
  simp at x0 x1
  clear w2 k2
  have hne1 : ¬ o + 1 = g1 := by omega
  have hne2 : ¬ lb = g1 := by omega
  have hne3 : ¬ rb = g1 := by omega
  have hne4 : ¬ w.heap.size = g1 := by omega
  have hlO : ∀ wr, Only (fun b => b = g1) W2.heap.size W2 wr → IntsAt wr (some ⟨lb, lofs, none⟩) l := fun wr h => hl.only h fun b off e hb => by
    simp only [Option.some.injEq, Addr.mk.injEq] at e
    obtain ⟨rfl, -⟩ := e
    exact hne2 hb
  have hrO : ∀ wr, Only (fun b => b = g1) W2.heap.size W2 wr → IntsAt wr (some ⟨rb, rofs, none⟩) rs := fun wr h => hr.only h fun b off e hb => by
    simp only [Option.some.injEq, Addr.mk.injEq] at e
    obtain ⟨rfl, -⟩ := e
    exact hne3 hb
  clear hl hr hs2
  have HhBw := Lib.hid hBw
  clear hBw
  have HhlO := Lib.hid hlO
  clear hlO
  have HhrO := Lib.hid hrO
  clear hrO
  have HhR := Lib.hid hR
  clear hR
  have HhOE := Lib.hid hOE
  clear hOE
  have Hhne1 := Lib.hid hne1
  clear hne1
  have Hhne2 := Lib.hid hne2
  clear hne2
  have Hhne3 := Lib.hid hne3
  clear hne3
  have Hhne4 := Lib.hid hne4
  clear hne4
  have Hx0 := Lib.hid x0
  clear x0
  have Hx1 := Lib.hid x1
  clear x1
  have Hhc1 := Lib.hid hc1
  clear hc1
  go_wp2_with fail
  go_loopw [24] (fun i wr => Only (fun b => b = g1) W2.heap.size W2 wr ∧ ∃ k : Nat, k ≤ l.length ∧ i = .int .i64 k ∧ RowAt wr g1 cap (fillTo rs l k)) (fun i _ => l.length - (intOf i).toNat)
  case atStart => exact ⟨Only.refl _ _ _, 0, by omega, rfl, HhR.out⟩
  case round =>
    obtain ⟨hO, k, hk, rfl, hRk⟩ := hrel
    have y0 := (hO.cell (p := ⟨o + 1, 0, none⟩) ob Hhne1.out).trans Hx0.out
    have y1 := (hO.cell (p := ⟨o + 1, 1, none⟩) ob Hhne1.out).trans Hx1.out
    have oz := Nat.lt_of_lt_of_le ob hO.size
    have hlw := HhlO.out _ hO
    by_cases hlt : k < l.length
    · have gF := fillTo_VG g l k
      have hFl := fillTo_len rs l k
      have HFS : Hid (fillTo rs l (k + 1) = joinL (fillTo rs l k) (laterN (fillTo rs l k) l k)) := rfl
      have hL := fun m : Later wr => implLater_any (fillTo rs l k) l k _ _ cap lc m.w (order_same gF hFl HO.out) hlt (hRk.ints.later m) (hlw.later m) hcap
      have hLl := later_lt (fillTo rs l k) l k
      rw [hFl] at hL hLl
      obtain ⟨lb', lofs', hl1', hlbr, hlcr⟩ := hlw hl1
      simp only [Option.some.injEq, Addr.mk.injEq] at hl1'
      obtain ⟨rfl, rfl, -⟩ := hl1'
      have hlk := hlcr k hlt
      generalize hLg : laterN (fillTo rs l k) l k = L at *
      clear hLg
      have hL128 : L < 128 := Nat.lt_of_lt_of_le hLl g.pow.1
      generalize fillTo rs l k = F at *
      have HF0 := Lib.hid (orL_zero gF L)
      have HFE := Lib.hid (orL_end gF (L := L) (by rw [hFl]; exact hLl))
      have HFN := fun t (ht : t < cnt L) => Lib.hid (orL_now (rs := F) (L := L) (t := t) (by rw [hFl]; exact hLl) gF.le ht)
      have HFU := fun t (ht : t < cnt L) => Lib.hid (orL_succ (rs := F) (L := L) (t := t) (by rw [hFl]; exact hLl) gF.le ht)
      have HFL := fun t => Lib.hid ((orL_len F L t).trans hFl)
      have HFB := fun v (hv : v < rs.length) => Lib.hid (orL_bits gF (L := L) (v := v) (by rw [hFl]; exact hLl) (by rw [hFl]; exact hv))
      have HG := fun v (hv : v < rs.length) => gF.lt128 (v := v) (by rw [hFl]; exact hv)
      have HHG := Lib.hid HG
      have HHFN := Lib.hid HFN
      have HHFU := Lib.hid HFU
      have HHFL := Lib.hid HFL
      have HHFB := Lib.hid HFB
      clear hlcr hlw HG HFN HFU HFL HFB hFl gF
      have HhO := Lib.hid hO
      clear hO
      have HhRk := Lib.hid hRk
      clear hRk
      obtain ⟨m, hm0⟩ : ∃ m : Later wr, m.w = wr := ⟨Later.refl _, rfl⟩
      refine (fun h => hm0 ▸ h) ?_
      clear hm0
      go_wp2_with (first | (go_at_call 51; refine (Calls.later m (hL _)).mono ?_; rintro e w' ⟨rfl, m, rfl⟩))
      clear hL
      refine (implListB_any L hL128 _).mono ?_
      rintro e w4 ⟨ao, ac, rfl, hB4, hN⟩
      have hBr : Below wr.heap.size wr w4 := below_more m.below hB4
      have hRk := HhRk.out.below hBr
      have hO := HhO.out.more hBr HhO.out.size
      have hmg : wr.heap.size ≤ m.w.heap.size := m.size
      have hC7 := cnt_le L
      have hgz := HhRk.out.lt
      generalize m.w.heap.size = mb at *
      clear hB4 hBr HhRk HhO m
      have y0 := (hO.cell (p := ⟨o + 1, 0, none⟩) ob Hhne1.out).trans Hx0.out
      have y1 := (hO.cell (p := ⟨o + 1, 1, none⟩) ob Hhne1.out).trans Hx1.out
      have oz := Nat.lt_of_lt_of_le ob hO.size
      have HhO := Lib.hid hO
      clear hO
      have HhRk := Lib.hid hRk
      clear hRk
      have HhN := Lib.hid hN
      clear hN
      have Hy0 := Lib.hid y0
      clear y0
      have Hy1 := Lib.hid y1
      clear y1
      go_wp2_with fail
      go_loopw [35] (fun i wr => Only (fun b => b = g1) w4.heap.size w4 wr ∧ ∃ t : Nat, t ≤ cnt L ∧ i = .int .i64 t ∧ RowAt wr g1 cap (orL F L t)) (fun i _ => cnt L - (intOf i).toNat)
      case atStart => exact ⟨Only.refl _ _ _, 0, by omega, rfl, by rw [HF0.out]; exact HhRk.out⟩
      case round =>
        obtain ⟨hO2, t, ht, rfl, hRt⟩ := hrel
        by_cases htt : t < cnt L
        · obtain ⟨b2, rfl, hb2, hbz, hc2⟩ := HhN.out (by unfold cnt at htt; omega)
          have hct := (hO2.cell (p := ⟨b2, t, none⟩) hbz (fun e => by have e2 : b2 = g1 := e; omega)).trans (hc2 t (by unfold cnt at htt; exact htt))
          have y0 := (hO2.cell (p := ⟨o + 1, 0, none⟩) oz Hhne1.out).trans Hy0.out
          have y1 := (hO2.cell (p := ⟨o + 1, 1, none⟩) oz Hhne1.out).trans Hy1.out
          have oz2 := Nat.lt_of_lt_of_le oz hO2.size
          have bz2 := Nat.lt_of_lt_of_le hbz hO2.size
          have hEv := (els_at hLl hN7 htt).1
          have hGv := HHG.out _ hEv
          have z1 := hRt.cell (eln (els L) t) (by rw [(HHFL.out t).out]; exact hEv)
          rw [(HHFN.out t htt).out] at z1
          have z2 := hRt.frozen (eln (els L) t)
          have z3 := hRt.lt
          have HB := HHFB.out _ hEv
          have HU := HHFU.out t htt
          clear hc2
          generalize eln (els L) t = v at *
          have HUl : v ≤ 6 := by omega
          have HhO2 := Lib.hid hO2
          clear hO2
          have HhRt := Lib.hid hRt
          clear hRt
          obtain ⟨m, hm0⟩ : ∃ m : Later wr, m.w = wr := ⟨Later.refl _, rfl⟩
          refine (fun h => hm0 ▸ h) ?_
          clear hm0
          go_wp2_with fail
          go_still_tail 10, (by kernel_rfl)
          refine wpList_drew_on m fun m => ?_
          go_wp2_with fail
          rw [HB.out]
          have hO3 := (HhO2.out.more m.below HhO2.out.size).setCell (p := ⟨g1, v, none⟩) (.inl rfl) (.int .i64 ((gn F v ||| nDiff L (2 ^ v) : Nat) : Int))
          have hR3 := (HhRt.out.below m.below).store v ((gn F v ||| nDiff L (2 ^ v) : Nat) : Int)
          rw [HU.out] at hR3
          generalize World.setCell _ _ _ = W6 at *
          clear z1 z2 y0 y1 hct m
          have HhO3 := Lib.hid hO3
          clear hO3
          have HhR3 := Lib.hid hR3
          clear hR3
          go_wp2_with fail
          go_roundw
          case rel => exact ⟨HhO3.out, t + 1, by omega, by go_num, HhR3.out⟩
          case measure => simp [intOf]; omega
        · obtain rfl : t = cnt L := by omega
          rw [HFE.out] at hRt
          have hO3 := HhO.out.trans (hO2.mono HhO.out.size fun b _ h => h)
          have HhO3 := Lib.hid hO3
          clear hO3
          have HhRt := Lib.hid hRt
          clear hRt
          clear hO2
          go_wp2_with fail
          go_roundw
          case rel => exact ⟨HhO3.out, k + 1, by omega, by go_num, by rw [HFS.out]; exact HhRt.out⟩
          case measure => simp [intOf]; omega
    · obtain rfl : k = l.length := by omega
      have gF := fillTo_VG g l l.length
      have hFl := fillTo_len rs l l.length
      have hE := fun m : Later wr => implEdgesOf_any (fillTo rs l l.length) _ cap gF.graph m.w (hRk.ints.later m)
      have hEl := edgesTo_len (fillTo rs l l.length) (fillTo rs l l.length).length
      have HNE : Hid (newEs rs (fillTo rs l l.length) = (edgesTo (fillTo rs l l.length) (fillTo rs l l.length).length).filter fun e => !eb rs e.1 e.2) := rfl
      have HEB : Hid (∀ (j : Nat) (e : Nat × Nat), (edgesTo (fillTo rs l l.length) (fillTo rs l l.length).length)[j]? = some e → e.1 < rs.length ∧ e.2 < rs.length) := Lib.hid fun j e he => by
        have hm := mem_edgesTo.1 (List.mem_of_getElem? he)
        rw [hFl] at hm
        omega
      rw [hFl] at hE hEl HNE HEB
      generalize edgesTo (fillTo rs l l.length) rs.length = E at *
      have hE49 : E.length ≤ 49 := Nat.le_trans hEl (Nat.mul_le_mul hN7 hN7)
      have hOE := HhOE.out.only hO (fun b e => by have e2 : b = g1 := e; omega)
      have hrw := HhrO.out _ hO
      have c1 := (hO.cell (p := ⟨w.heap.size, 1, none⟩) hb0' Hhne4.out).trans Hhc1.out
      have wz := Nat.lt_of_lt_of_le hb0' hO.size
      have hBw := HhBw.out.trans (hO.below HhBw.out.size fun b hb e => by have e2 : b = g1 := e; omega)
      have oz2 : o + 1 < wr.heap.size := oz
      clear hEl hFl gF hRk HhOE HhrO HhlO HhBw Hhc1 Hx0 Hx1 hO HhR
      have HhOE := Lib.hid hOE
      clear hOE
      have Hhrw := Lib.hid hrw
      clear hrw
      have HhBw := Lib.hid hBw
      clear hBw
      obtain ⟨m, hm0⟩ : ∃ m : Later wr, m.w = wr := ⟨Later.refl _, rfl⟩
      refine (fun h => hm0 ▸ h) ?_
      clear hm0
      go_wp2_with fail
      refine (hE m).mono ?_
      rintro e w4 ⟨eo, ec, ex, rfl, hB4, hEO, hEV⟩
      have hBr : Below wr.heap.size wr w4 := below_more m.below hB4
      have hOE := HhOE.out.below hBr
      have hrw := Hhrw.out.below hBr
      have c1 := (hBr.cell (p := ⟨w.heap.size, 1, none⟩) wz).trans c1
      have wz := Nat.lt_of_lt_of_le wz hBr.size
      have oz2 := Nat.lt_of_lt_of_le oz2 hBr.size
      have hBw := below_more' HhBw.out hBr
      have hms : wr.heap.size ≤ m.w.heap.size := m.size
      generalize m.w.heap.size = mb at *
      clear hE hB4 hBr m y0 y1
      obtain ⟨rb', rofs', hr1', hrbr, hrcr⟩ := hrw.graph g
      simp only [Option.some.injEq, Addr.mk.injEq] at hr1'
      obtain ⟨rfl, rfl, -⟩ := hr1'
      have hexl := hEV.1
      have HEX := Lib.hid hexl
      clear hexl hrw
      have HhOE := Lib.hid hOE
      clear hOE
      have HhEO := Lib.hid hEO
      clear hEO
      have HhEV := Lib.hid hEV
      clear hEV
      have HhBw := Lib.hid hBw
      clear hBw
      have Hhrcr := Lib.hid hrcr
      clear hrcr
      obtain ⟨m, hm0⟩ : ∃ m : Later w4, m.w = w4 := ⟨Later.refl _, rfl⟩
      refine (fun h => hm0 ▸ h) ?_
      clear hm0
      go_wp2_with fail
      go_loopw [7, 55] (fun u i wr => (∃ m : Later w4, wr = m.w) ∧ ∃ j : Nat, j ≤ ex.length ∧ i = .int .i64 j ∧ ∃ ao cp xs, u = .slice ao xs.length cp ∧ xs.length ≤ j ∧ OwnVE wr w4.heap.size ao cp xs ∧ ValsOf w4 xs ((E.take j).filter fun e => !eb rs e.1 e.2)) (fun _ i _ => ex.length - (intOf i).toNat)
      case atStart => exact ⟨⟨m, rfl⟩, 0, by omega, rfl, some ⟨o, 0, none⟩, 0, [], rfl, by simp, .inr ⟨rfl, rfl, by simp⟩, ValsOf.nil _⟩
      case round =>
        obtain ⟨⟨m, rfl⟩, j, hj, rfl, ao, cp, xs, rfl, hxj, hOV, hXV⟩ := hrel
        by_cases hlt : j < ex.length
        · have hjE : j < E.length := by rw [← HEX.out]; exact hlt
          obtain ⟨e, hEj⟩ : ∃ e, E[j]? = some e := ⟨_, List.getElem?_eq_getElem hjE⟩
          obtain ⟨gb, hx, hgb⟩ := HhEV.out.2 j e hEj
          obtain ⟨G, rfl, -, hG, hcs⟩ := HhEO.out.cells (by omega)
          obtain ⟨he1, he2⟩ := HEB.out j e hEj
          have hxc := hcs j _ hx
          have hgl : gb < w4.heap.size := (Array.getElem?_eq_some_iff.1 hgb).1
          have hga : w4.cell? ⟨gb, 0, none⟩ = some (.int .i64 (e.1 : Int)) := by simp [World.cell?, hgb]
          have hgc : w4.cell? ⟨gb, 1, none⟩ = some (.int .i64 (e.2 : Int)) := by simp [World.cell?, hgb]
          have hrc := Hhrcr.out e.1 he1
          have hH' := fun w : World => has_any (gn rs e.1 : Int) (e.2 : Int) (by omega) (by omega) w
          simp only [Int.toNat_natCast, hasN_nat] at hH'
          have HTE : Hid ((gn rs e.1).testBit e.2 = eb rs e.1 e.2) := rfl
          rw [HTE.out] at hH'
          have HSK := Lib.hid (fun hp => hXV.skip (p := fun e => !eb rs e.1 e.2) hEj hp)
          have HTK := Lib.hid (fun hp => hXV.take (p := fun e => !eb rs e.1 e.2) hEj hp hgb)
          have hx49 : xs.length ≤ 1048576 := by have := HEX.out; omega
          have hmw := m.size
          clear hcs hgb hx hEj hXV HTE
          generalize hbb : eb rs e.1 e.2 = bb at *
          have Hbb := Lib.hid hbb
          clear hbb
          generalize hA : (gn rs e.1 : Int) = A at *
          generalize hE1 : e.1 = E1 at *
          generalize hE2 : e.2 = E2 at *
          clear hA
          have HW : Hid (∀ m2 : Later m.w, ∃ m' : Later w4, m'.w = m2.w) := Lib.hid fun m2 => ⟨m.on m2.below, rfl⟩
          replace hxc : m.w.cell? _ = _ := (m.cell _ _ hG).trans hxc
          replace hga : m.w.cell? _ = _ := (m.cell _ _ hgl).trans hga
          replace hgc : m.w.cell? _ = _ := (m.cell _ _ hgl).trans hgc
          replace hrc : m.w.cell? _ = _ := (m.cell _ _ hrbr).trans hrc
          replace c1 : m.w.cell? _ = _ := (m.cell _ _ wz).trans c1
          replace hG := Nat.lt_of_lt_of_le hG m.size
          replace hgl := Nat.lt_of_lt_of_le hgl m.size
          replace hrbr := Nat.lt_of_lt_of_le hrbr m.size
          replace wz := Nat.lt_of_lt_of_le wz m.size
          have hH := fun m2 : Later m.w => Calls.later_same m2 (hH' m2.w)
          have HhOV := Lib.hid hOV
          clear hOV
          have HhE1 := Lib.hid hE1
          clear hE1
          have HhE2 := Lib.hid hE2
          clear hE2
          generalize m.w = W5 at *
          clear m
          obtain ⟨m, hm0⟩ : ∃ m : Later W5, m.w = W5 := ⟨Later.refl _, rfl⟩
          refine (fun h => hm0 ▸ h) ?_
          clear hm0
          go_wp2_with fail
          cases bb
          · refine wp_region_later m rfl (by kernel_rfl) (by kernel_rfl) ?_
            repeat (go_big_quiet_step ((first | (go_at_call 71; with_reducible exact hH _))))
            refine wpQuiet_nil ?_
            rintro _ ⟨m, rfl⟩
            go_wp2_with (first | (at_builtin; go_must (refine wpList_append_rowe rfl _ _ rfl w4.heap.size cp ao xs (.slice (some ⟨gb, 0, none⟩) 2 2) rfl rfl (HhOV.out.below m.below) rfl (Nat.le_trans hmw m.size) hx49 ?_); intro ao1 cap1 w1 hown1 hB1))
            have hXV2 := HTK.out rfl
            obtain ⟨m', hm'⟩ := HW.out m
            obtain ⟨m, rfl⟩ : ∃ m2 : Later w4, m2.w = w1 := ⟨⟨w1, m'.below.trans (hm' ▸ hB1)⟩, rfl⟩
            clear hm' m'
            go_roundw
            case rel => exact ⟨⟨m, rfl⟩, j + 1, by omega, by go_num, ao1, cap1, xs ++ [_], by rw [List.length_append]; rfl, by simp; omega, hown1, hXV2⟩
            case measure => simp [intOf]; omega
          · refine wp_region_later m rfl (by kernel_rfl) (by kernel_rfl) ?_
            repeat (go_big_quiet_step ((first | (go_at_call 71; with_reducible exact hH _))))
            refine wpQuiet_nil ?_
            rintro _ ⟨m, rfl⟩
            go_wp2_with fail
            have hXV2 := HSK.out rfl
            obtain ⟨m', hm'⟩ := HW.out m
            go_roundw
            case rel => exact ⟨⟨m', hm'.symm⟩, j + 1, by omega, by go_num, ao, cp, xs, rfl, by omega, HhOV.out.below m.below, hXV2⟩
            case measure => simp [intOf]; omega
        · obtain rfl : j = ex.length := by omega
          have hall : E.take ex.length = E := List.take_of_length_le (by have := HEX.out; omega)
          rw [hall] at hXV
          have hF := below_later HhBw.out m
          have hXF := hXV.below m.below
          have hOF := hOV.mono (base' := w.heap.size) (by have := HhBw.out.size; omega)
          clear hXV hOV hall
          have HhF := Lib.hid hF
          clear hF
          have HhXF := Lib.hid hXF
          clear hXF
          have HhOF := Lib.hid hOF
          clear hOF
          go_wp2_with fail
          go_ret2
          exact ⟨ao, cp, xs, rfl, HhF.out, HhOF.out, by rw [HNE.out]; exact HhXF.out⟩

end Go.Proofs.Ytfkehmpckhmkbaa
