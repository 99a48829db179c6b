/-
  Lists of slices ([][]int) that a call itself makes and appends to.
  EdgesOf of the program on a graph. For at most 7 rows.
-/
import Derived.Test.YtgklgheaojoimaaPkLawStrong04
import Derived.Test.YtgklgheaojoimaaPkLawStrong19
namespace Go.Proofs.Ytgklgheaojoimaa
open Go.RowKit

theorem info_row : (Try.prog.info? 24).map (fun i => (i.zero, i.size, i.bytes)) = some (some (.slice none 0 0), 1, 24) := by kernel_rfl

/-- The slice value v owns the slices xs in a row of the call's own, from block 'base' on. -/
def OwnV (w : World) (base : Nat) (v : Value) (xs : List Value) : Prop := w.ownsRow base 24 1 v xs.length xs

theorem OwnV.cells {w : World} {base n cap : Nat} {ao : Option Addr} {xs : List Value} (h : OwnV w base (.slice ao n cap) xs) (h0 : 0 < xs.length) : ∃ g, ao = some ⟨g, 0, none⟩ ∧ base ≤ g ∧ g < w.heap.size ∧ ∀ k u, xs[k]? = some u → w.cell? ⟨g, k, none⟩ = some u := by
  obtain ⟨hl, h1 | ⟨g, cp, cur, hv, hg, hb, hn, hm, hsz, ht⟩⟩ := h
  · omega
  · simp only [Value.slice.injEq] at hv
    obtain ⟨rfl, -, -⟩ := hv
    refine ⟨g, rfl, hg, (Array.getElem?_eq_some_iff.1 hb).1, fun k u hk => ?_⟩
    obtain ⟨hkl, -⟩ := List.getElem?_eq_some_iff.1 hk
    have : cur[k]? = some u := by
      have e : (cur.toList.take (xs.length * 1))[k]? = xs[k]? := by rw [ht]
      rw [List.getElem?_take, if_pos (by omega), Array.getElem?_toList] at e
      rw [e]; exact hk
    simp only [World.cell?, hb]
    simpa using this

theorem OwnV.form {w : World} {base : Nat} {v : Value} {xs : List Value} (h : OwnV w base v xs) : ∃ ao cap, v = .slice ao xs.length cap := by
  obtain ⟨hl, ⟨h1, h2⟩ | ⟨g, cp, cur, hv, -⟩⟩ := h
  · exact ⟨none, 0, by rw [h1, h2]⟩
  · exact ⟨_, _, hv⟩

theorem OwnV.alloc {w : World} {base : Nat} {v : Value} {xs : List Value} (h : OwnV w base v xs) (o : Obj) : OwnV (w.alloc o) base v xs := World.ownsRow.alloc h o

theorem OwnV.below {w w' : World} {base : Nat} {v : Value} {xs : List Value} (h : OwnV w base v xs) (hb : Below w.heap.size w w') : OwnV w' base v xs := by
  obtain ⟨h0, h1 | ⟨g, cap, cur, hv, hg, hh, r⟩⟩ := h
  · exact ⟨h0, .inl h1⟩
  · exact ⟨h0, .inr ⟨g, cap, cur, hv, hg, by rw [hb.block g (Array.getElem?_eq_some_iff.1 hh).1]; exact hh, r⟩⟩

/-- '[][]int{}' -/
theorem OwnV.empty (w : World) : OwnV (w.alloc (.cells #[] 24)) w.heap.size (.slice (some ⟨w.heap.size, 0, none⟩) 0 0) [] :=
  ⟨by simp, .inr ⟨w.heap.size, 0, #[], rfl, Nat.le_refl _, by show (w.heap.push _)[w.heap.size]? = _; simp, Nat.le_refl _, by simp, by simp, by simp⟩⟩

theorem OwnV.own {w : World} {base : Nat} {v : Value} {xs : List Value} (h : OwnV w base v xs) : ∀ k, v.ownBlock = some k → base ≤ k := by
  intro k hk
  obtain ⟨hl, ⟨h1, h2⟩ | ⟨g, cp, cur, hv, hg, -⟩⟩ := h
  · rw [h1] at hk; cases hk
  · rw [hv] at hk
    simp only [Value.ownBlock, Option.some.injEq] at hk
    omega

/-- 'out = append(out, y)', out the call's own, y a slice. -/
theorem wpList_append_row {ops : Array Oper} {rest : List Oper} {o : Oper} {a : Act} {Q : Exit → Act → World → Prop} {w : World} (hgd : o.guard = none) (s x : Operand)
    (ho : o.op = .call { callee := .builtin .append, args := #[s, x], argTypes := #[35, 35] })
    (base : Nat) (v : Value) (xs : List Value) (y : Value) (hy : y.oneCell' = true) (hs : a.eval s = v) (hown : OwnV w base v xs) (hx : a.eval x = .slice (some ⟨w.heap.size, 0, none⟩) 1 1) (hbase : base ≤ w.heap.size) (hlen : xs.length ≤ 1048576)
    (h : ∀ ao cap w', OwnV w' base (.slice ao (xs.length + 1) cap) (xs ++ [y]) → Below base w w' → (w.alloc (.cells #[y] 24)).grownBy w' v.ownBlock → wpList Try.prog ops Q rest (a.put o.dst (.slice ao (xs.length + 1) cap)) w') :
    wpList Try.prog ops Q (o :: rest) a (w.alloc (.cells #[y] 24)) := by
  obtain ⟨i0, hi, hz0, hz1, hz2⟩ := info_parts info_row
  refine wpList_append_own (w.alloc (.cells #[y] 24)) hgd s x 35 ho base 24 i0 (.slice none 0 0) 1 24 Try.underlying35 hi hz0 hz1 hz2 rfl (by decide) v xs.length xs hs (hown.alloc _)
    ⟨w.heap.size, 0, none⟩ 1 1 [y] hx rfl ?_ ?_ (by unfold maxLen; omega) (by omega) (by simp; omega) ?_
  · intro j u hj
    match j, hj with
    | 0, hj => simp at hj; subst hj; simp [Addr.add]
  · intro u hu; simp at hu; subst hu; exact hy
  · intro v' w' h1 h2 _
    have h3 : OwnV w' base v' (xs ++ [y]) := by unfold OwnV; simpa using h1
    obtain ⟨ao, cap, rfl⟩ := h3.form
    have e : (xs ++ [y]).length = xs.length + 1 := by simp
    rw [e] at h3 ⊢
    refine h ao cap w' h3 ?_ ?_
    · have hb : Below base w (w.alloc (.cells #[y] 24)) := (Below.refl _ _).alloc hbase _
      exact hb.grown h2 (by simp; omega) hown.own
    · exact h2

end Go.Proofs.Ytgklgheaojoimaa

namespace Go.Proofs.Ytgklgheaojoimaa
open Go.RowKit

/-- The edges from i to the c vertices behind i. -/
def edgesIn (rs : List Int) (i : Nat) : Nat → List (Nat × Nat)
  | 0 => []
  | c + 1 => edgesIn rs i c ++ (if (gn rs i).testBit (i + 1 + c) = true then [(i, i + 1 + c)] else [])
def edgesTo (rs : List Int) : Nat → List (Nat × Nat)
  | 0 => []
  | i + 1 => edgesTo rs i ++ edgesIn rs i (rs.length - (i + 1))
theorem edgesIn_len (rs : List Int) (i : Nat) : ∀ c, (edgesIn rs i c).length ≤ c
  | 0 => by simp [edgesIn]
  | c + 1 => by
    have := edgesIn_len rs i c
    unfold edgesIn
    rw [List.length_append]
    split <;> simp <;> omega
theorem edgesTo_len (rs : List Int) : ∀ i, (edgesTo rs i).length ≤ i * rs.length
  | 0 => by simp [edgesTo]
  | i + 1 => by
    have h1 := edgesTo_len rs i
    have h2 := edgesIn_len rs i (rs.length - (i + 1))
    unfold edgesTo
    rw [List.length_append, Nat.succ_mul]
    omega

/-- The slices xs read as the pairs es. -/
def ValsOf (w : World) (xs : List Value) (es : List (Nat × Nat)) : Prop :=
  xs.length = es.length ∧ ∀ (k : Nat) (e : Nat × Nat), es[k]? = some e → ∃ g, xs[k]? = some (.slice (some ⟨g, 0, none⟩) 2 2) ∧ w.heap[g]? = some (.cells #[.int .i64 e.1, .int .i64 e.2] 3)
theorem ValsOf.nil (w : World) : ValsOf w [] [] := ⟨rfl, fun k e h => by simp at h⟩
theorem ValsOf.below {w w' : World} {xs : List Value} {es : List (Nat × Nat)} (h : ValsOf w xs es) (hb : Below w.heap.size w w') : ValsOf w' xs es :=
  ⟨h.1, fun k e he => by
    obtain ⟨g, h1, h2⟩ := h.2 k e he
    exact ⟨g, h1, (hb.block g (Array.getElem?_eq_some_iff.1 h2).1).trans h2⟩⟩
theorem ValsOf.grown {w w' : World} {base : Nat} {v : Value} {zs xs : List Value} {es : List (Nat × Nat)} (h : ValsOf w xs es) (ho : OwnV w base v zs) (hg : w.grownBy w' v.ownBlock) : ValsOf w' xs es :=
  ⟨h.1, fun k e he => by
    obtain ⟨g, h1, h2⟩ := h.2 k e he
    refine ⟨g, h1, (hg.block g (Array.getElem?_eq_some_iff.1 h2).1 ?_).trans h2⟩
    intro e
    obtain ⟨-, ⟨h1, -⟩ | ⟨g2, cp, cur, hv, -, hh, -⟩⟩ := ho
    · rw [h1] at e; cases e
    · rw [hv] at e
      simp only [Value.ownBlock, Option.some.injEq] at e
      subst e
      rw [h2] at hh
      simp at hh⟩
theorem ValsOf.push {w : World} {xs : List Value} {es : List (Nat × Nat)} {g a b : Nat} (h : ValsOf w xs es) (hg : w.heap[g]? = some (.cells #[.int .i64 a, .int .i64 b] 3)) :
    ValsOf w (xs ++ [.slice (some ⟨g, 0, none⟩) 2 2]) (es ++ [(a, b)]) := by
  refine ⟨by simp [h.1], fun k e he => ?_⟩
  by_cases hk : k < es.length
  · rw [List.getElem?_append_left hk] at he
    rw [List.getElem?_append_left (by rw [h.1]; exact hk)]
    exact h.2 k e he
  · rw [List.getElem?_append_right (by omega)] at he
    have hke : k = es.length := by
      obtain ⟨hl, -⟩ := List.getElem?_eq_some_iff.1 he
      simp at hl; omega
    subst hke
    simp at he
    subst he
    refine ⟨g, ?_, hg⟩
    rw [← h.1]; simp

theorem OwnV.mono {w : World} {base base' : Nat} {v : Value} {xs : List Value} (h : OwnV w base v xs) (hb : base' ≤ base) : OwnV w base' v xs := by
  obtain ⟨h0, h1 | ⟨g, cap, cur, hv, hg, r⟩⟩ := h
  · exact ⟨h0, .inl h1⟩
  · exact ⟨h0, .inr ⟨g, cap, cur, hv, Nat.le_trans hb hg, r⟩⟩

set_option maxRecDepth 100000 in
set_option maxHeartbeats 2000000 in
theorem implEdgesOf_any (rs : List Int) (ro : Option Addr) (rc : Nat) (hv : isGraphB rs.length rs = true) (w : World) (hr : IntsAt w ro rs) :
    Calls Try.prog 88 #[.agg #[.int .i64 rs.length, .slice ro rs.length rc]] w fun e w' => ∃ ao cap xs, e = .returned (.slice ao xs.length cap) ∧ Below w.heap.size w w' ∧ OwnV w' w.heap.size (.slice ao xs.length cap) xs ∧ ValsOf w' xs (edgesTo rs rs.length) := by
  have g := (VG.of hv).2
  have hg1 := g.pos
  have hg2 := g.le
  go_enter Try.func88, Try.ntmps88
  go_wp2_with fail
  generalize hW : w.alloc _ = W1
  have hsz : W1.heap.size = w.heap.size + 1 := by rw [← hW]; simp
  obtain ⟨hB, -, k0⟩ := alloc1 hW
  replace hr := hr.below hB
  have hb0 := k0.lt
  have hc0 := k0.cell 0
  have hc1 := k0.cell 1
  simp at hc0 hc1
  clear hW k0
  have HhB := Lib.hid hB
  clear hB
  obtain ⟨rb, rofs, rfl, hrb, hrc⟩ := hr.graph g
  have HRC := Lib.hid hrc
  clear hrc
  go_wp2_with fail
  generalize hW2 : W1.alloc _ = W2
  obtain ⟨hB2, -, -⟩ := alloc1 hW2
  have hO : OwnV W2 W1.heap.size (.slice (some ⟨W1.heap.size, 0, none⟩) 0 0) [] := by rw [← hW2]; exact OwnV.empty W1
  obtain ⟨m, rfl⟩ : ∃ m2 : Later W1, m2.w = W2 := ⟨⟨W2, hB2⟩, rfl⟩
  have hadr : Value.slice (some ⟨W1.heap.size, 0, none⟩) 0 0 = .slice (some ⟨w.heap.size + 1, 0, none⟩) 0 0 := by rw [hsz]
  rw [hadr] at hO
  clear hsz hadr
  clear hB2 hW2
  refine (implIsGraph_any _ _ _ _ _ (hr.later m) (by omega)).mono ?_
  rw [hv]
  rintro e w' ⟨rfl, hB3⟩
  replace hO := hO.below hB3
  obtain ⟨m, rfl⟩ : ∃ m2 : Later W1, m2.w = w' := ⟨m.on hB3, rfl⟩
  clear hB3
  go_wp2_with fail
  go_loopw [3, 15] (fun o i wr => (∃ m : Later W1, wr = m.w) ∧ ∃ k : Nat, k ≤ rs.length ∧ i = .int .i64 k ∧ ∃ ao cap xs, o = .slice ao xs.length cap ∧ OwnV wr W1.heap.size (.slice ao xs.length cap) xs ∧ ValsOf wr xs (edgesTo rs k)) (fun _ i _ => rs.length - (intOf i).toNat)
  case atStart => exact ⟨⟨m, rfl⟩, 0, by omega, rfl, _, _, [], rfl, hO, ValsOf.nil _⟩
  case round =>
    obtain ⟨⟨m, rfl⟩, k, hk, rfl, ao, cap, xs, rfl, hO, hV⟩ := hrel
    by_cases hlt : k < rs.length
    · have hcr := HRC.out k hlt
      have hg128 := g.lt128 hlt
      have hEl := edgesTo_len rs k
      have hkk : k * rs.length ≤ 49 := Nat.le_trans (Nat.mul_le_mul hk (Nat.le_refl _)) (Nat.mul_le_mul hg2 hg2)
      have HEl := Lib.hid (Nat.le_trans hEl hkk)
      clear hEl hkk
      have HES : Hid (edgesTo rs (k + 1) = edgesTo rs k ++ edgesIn rs k (rs.length - (k + 1))) := rfl
      generalize edgesTo rs k = E at *
      have HhO := Lib.hid hO
      clear hO
      have HhV := Lib.hid hV
      clear hV
      go_wp2_with fail
      go_loopw [3, 6] (fun o i wr => (∃ m : Later W1, wr = m.w) ∧ ∃ c : Nat, k + 1 + c ≤ rs.length ∧ i = .int .i64 (k + 1 + c : Nat) ∧ ∃ ao cap xs, o = .slice ao xs.length cap ∧ OwnV wr W1.heap.size (.slice ao xs.length cap) xs ∧ ValsOf wr xs (E ++ edgesIn rs k c)) (fun _ i _ => rs.length - (intOf i).toNat)
      case atStart => exact ⟨⟨m, rfl⟩, 0, by omega, by go_num, ao, cap, xs, rfl, HhO.out, by show ValsOf _ _ (E ++ []); rw [List.append_nil]; exact HhV.out⟩
      case round =>
        obtain ⟨⟨m, rfl⟩, c, hc, rfl, ao, cap, xs, rfl, hO, hV⟩ := hrel
        have hEl := edgesIn_len rs k c
        have hxl := hV.1
        rw [List.length_append] at hxl
        have hx56 : xs.length ≤ 1048576 := by have := HEl.out; omega
        clear hxl hEl
        have hms := m.size
        have HhO := Lib.hid hO
        clear hO
        have HhV := Lib.hid hV
        clear hV
        by_cases hct : k + 1 + c < rs.length
        · have hH := fun w : World => has_any (gn rs k : Int) ((k + 1 + c : Nat) : Int) (by omega) (by omega) w
          have HB : hasN (gn rs k : Int) ((k + 1 + c : Nat) : Int).toNat = (gn rs k).testBit (k + 1 + c) := hasN_nat _ _
          rw [HB] at hH
          clear HB
          have HI : Hid (E ++ edgesIn rs k (c + 1) = (E ++ edgesIn rs k c) ++ (if (gn rs k).testBit (k + 1 + c) = true then [(k, k + 1 + c)] else [])) := Lib.hid (by rw [List.append_assoc]; rfl)
          have hq : ((k + 1 + c : Nat) : Int) + 1 = ((k + 1 + (c + 1) : Nat) : Int) := by omega
          cases hb : (gn rs k).testBit (k + 1 + c)
          · rw [hb] at hH HI
            go_wp2_with (first | (go_at_call 86; refine (hH _).mono ?_; rintro e w' ⟨rfl, rfl⟩))
            go_roundw
            case rel => exact ⟨⟨m, rfl⟩, c + 1, by omega, by go_num, ao, cap, xs, rfl, HhO.out, by rw [HI.out]; simpa using HhV.out⟩
            case measure => simp [intOf]; omega
          · rw [hb] at hH HI
            go_wp2_with (first | (go_at_call 86; refine (hH _).mono ?_; rintro e w' ⟨rfl, rfl⟩) | (at_builtin; go_must (refine wpList_append_row rfl _ _ rfl W1.heap.size (.slice ao xs.length cap) xs (.slice (some ⟨m.w.heap.size, 0, none⟩) 2 2) rfl rfl (HhO.out.alloc _) (by show Value.slice (some ⟨m.w.heap.size + 1, 0, none⟩) 1 1 = _; simp) (by simp; omega) hx56 ?_); intro ao1 cap1 w1 hown1 hB1 hG1))
            have hC : (m.w.alloc (.cells #[.int .i64 k, .int .i64 ((k : Int) + 1 + c)] 3)).heap[m.w.heap.size]? = some (.cells #[.int .i64 k, .int .i64 ((k + 1 + c : Nat) : Int)] 3) := by rw [heap_alloc_new]; simp
            have hV1 := ((HhV.out.below ((Below.refl _ _).alloc (Nat.le_refl _) _)).push hC).below ((Below.refl _ _).alloc (Nat.le_refl _) (.cells #[.slice (some ⟨m.w.heap.size, 0, none⟩) 2 2] 24))
            have hV2 := hV1.grown ((HhO.out.alloc _).alloc _) hG1
            have hBm : Below W1.heap.size m.w w1 := ((Below.refl _ _).alloc hms _).trans hB1
            obtain ⟨m, rfl⟩ : ∃ m2 : Later W1, m2.w = w1 := ⟨⟨w1, m.below.trans hBm⟩, rfl⟩
            go_roundw
            case rel => exact ⟨⟨m, rfl⟩, c + 1, by omega, by go_num, ao1, cap1, xs ++ [_], by rw [List.length_append]; rfl, by rw [List.length_append]; exact hown1, by rw [HI.out]; exact hV2⟩
            case measure => simp [intOf]; omega
        · go_wp2_with fail
          go_roundw
          case rel => exact ⟨⟨m, rfl⟩, k + 1, by omega, by go_num, ao, cap, xs, rfl, HhO.out, by rw [HES.out, show rs.length - (k + 1) = c by omega]; exact HhV.out⟩
          case measure => simp [intOf]; omega
    · obtain rfl : k = rs.length := by omega
      have HhO := Lib.hid hO
      clear hO
      have HhV := Lib.hid hV
      clear hV
      go_wp2_with fail
      go_ret
      exact ⟨ao, cap, xs, rfl, below_later HhB.out m, HhO.out.mono (Nat.le_of_lt hb0), HhV.out⟩

end Go.Proofs.Ytgklgheaojoimaa
