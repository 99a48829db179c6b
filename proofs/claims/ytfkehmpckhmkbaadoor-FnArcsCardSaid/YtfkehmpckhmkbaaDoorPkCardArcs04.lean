/-
  Lists of integers that a call itself makes and appends to; the walks of ListOf and CountSet on both sides. No conditions.
-/
import Derived.Test.YtfkehmpckhmkbaaDoorPkCardArcs02
namespace Go.Proofs.YtfkehmpckhmkbaaDoor
open Go.RowKit

/-- The slice value v owns the integers xs in a row of the call's own, from block 'base' on. -/
def OwnL (w : World) (base : Nat) (v : Value) (xs : List Int) : Prop := w.ownsRow base 3 1 v xs.length (xs.map (Value.int .i64))
theorem OwnL.ints {w : World} {base n cap : Nat} {ao : Option Addr} {xs : List Int} (h : OwnL w base (.slice ao n cap) xs) : IntsAt w ao xs := fun h0 => by
  obtain ⟨hl, h1 | ⟨g, cp, cur, hv, hg, hb, hn, hm, hsz, ht⟩⟩ := h
  · omega
  · simp only [Value.slice.injEq] at hv
    obtain ⟨rfl, -, -⟩ := hv
    refine ⟨g, 0, rfl, (Array.getElem?_eq_some_iff.1 hb).1, fun k hk => ?_⟩
    have : cur[k]? = some (.int .i64 (gi xs k)) := by
      have e : (cur.toList.take (xs.length * 1))[k]? = (xs.map (Value.int .i64))[k]? := by rw [ht]
      rw [List.getElem?_take, if_pos (by omega), Array.getElem?_toList] at e
      rw [e]; simp [gi, hk]
    rw [Nat.zero_add]
    simp only [World.cell?, hb]
    simpa using this
theorem OwnL.form {w : World} {base : Nat} {v : Value} {xs : List Int} (h : OwnL w base v xs) : ∃ ao cap, v = .slice ao xs.length cap := by
  obtain ⟨hl, ⟨h1, h2⟩ | ⟨g, cp, cur, hv, -⟩⟩ := h
  · exact ⟨none, 0, by rw [h1, h2]⟩
  · exact ⟨_, _, hv⟩
theorem OwnL.alloc {w : World} {base : Nat} {v : Value} {xs : List Int} (h : OwnL w base v xs) (o : Obj) : OwnL (w.alloc o) base v xs := World.ownsRow.alloc h o
theorem OwnL.mono {w : World} {base base' : Nat} {v : Value} {xs : List Int} (h : OwnL w base v xs) (hb : base' ≤ base) : OwnL w base' v xs := by
  obtain ⟨h0, h1 | ⟨g, cap, cur, hv, hg, r⟩⟩ := h
  · exact ⟨h0, .inl h1⟩
  · exact ⟨h0, .inr ⟨g, cap, cur, hv, Nat.le_trans hb hg, r⟩⟩
theorem OwnL.below {w w' : World} {base : Nat} {v : Value} {xs : List Int} (h : OwnL w base v xs) (hb : Below w.heap.size w w') : OwnL w' base v xs := by
  obtain ⟨h0, h1 | ⟨g, cap, cur, hv, hg, hh, r⟩⟩ := h
  · exact ⟨h0, .inl h1⟩
  · exact ⟨h0, .inr ⟨g, cap, cur, hv, hg, by rw [hb.block g (Array.getElem?_eq_some_iff.1 hh).1]; exact hh, r⟩⟩
theorem OwnL.nil (w : World) (base : Nat) : OwnL w base (.slice none 0 0) [] := World.ownsRow_nil _ _ _ _
/-- '[]int{}' -/
theorem OwnL.empty (w : World) : OwnL (w.alloc (.cells #[] 3)) w.heap.size (.slice (some ⟨w.heap.size, 0, none⟩) 0 0) [] :=
  ⟨by simp, .inr ⟨w.heap.size, 0, #[], rfl, Nat.le_refl _, by show (w.heap.push _)[w.heap.size]? = _; simp, Nat.le_refl _, by simp, by simp, by simp⟩⟩

/-- 'out = append(out, y)', out the call's own. -/
theorem wpList_append_int {ops : Array Oper} {rest : List Oper} {o : Oper} {a : Act} {Q : Exit → Act → World → Prop} {w : World} (hgd : o.guard = none) (s x : Operand)
    (ho : o.op = .call { callee := .builtin .append, args := #[s, x], argTypes := #[24, 24] })
    (base : Nat) (v : Value) (xs : List Int) (y : Int) (hs : a.eval s = v) (hown : OwnL w base v xs) (hx : a.eval x = .slice (some ⟨w.heap.size, 0, none⟩) 1 1) (hbase : base ≤ w.heap.size) (hlen : xs.length ≤ 1048576)
    (h : ∀ ao cap w', OwnL w' base (.slice ao (xs.length + 1) cap) (xs ++ [y]) → Below base w w' → wpList Tryd.prog ops Q rest (a.put o.dst (.slice ao (xs.length + 1) cap)) w') :
    wpList Tryd.prog ops Q (o :: rest) a (w.alloc (.cells #[.int .i64 y] 3)) := by
  obtain ⟨i0, hi, hz0, hz1, hz2⟩ := info_parts info_int
  refine wpList_append_own (w.alloc (.cells #[.int .i64 y] 3)) hgd s x 24 ho base 3 i0 (.int .i64 0) 1 8 Tryd.underlying24 hi hz0 hz1 hz2 rfl (by decide) v xs.length (xs.map (Value.int .i64)) hs (hown.alloc _)
    ⟨w.heap.size, 0, none⟩ 1 1 [.int .i64 y] hx rfl ?_ ?_ (by unfold maxLen; omega) (by omega) (by simp; omega) ?_
  · intro j u hj
    match j, hj with
    | 0, hj => simp at hj; subst hj; simp [Addr.add]
  · intro u hu; simp at hu; subst hu; rfl
  · intro v' w' h1 h2 _
    have h3 : OwnL w' base v' (xs ++ [y]) := by unfold OwnL; simpa using h1
    obtain ⟨ao, cap, rfl⟩ := h3.form
    have e : (xs ++ [y]).length = xs.length + 1 := by simp
    rw [e] at h3 ⊢
    refine h ao cap w' h3 ?_
    have hb : Below base w (w.alloc (.cells #[.int .i64 y] 3)) := (Below.refl _ _).alloc hbase _
    exact hb.grown h2 (by simp; omega) (fun k hk => (hown.lt k hk).1)

/-! ### ListOf -/
def listUpto (s : Int) (k : Nat) : List Int := ((List.range k).filter (fun v => hasN s v)).map Int.ofNat
theorem listUpto_yes {s : Int} {k : Nat} (h : hasN s k = true) : listUpto s (k + 1) = listUpto s k ++ [(k : Int)] := by
  unfold listUpto; rw [List.range_succ, List.filter_append]; simp [h]
theorem listUpto_no {s : Int} {k : Nat} (h : hasN s k = false) : listUpto s (k + 1) = listUpto s k := by
  unfold listUpto; rw [List.range_succ, List.filter_append]; simp [h]
theorem listUpto_len (s : Int) (k : Nat) : (listUpto s k).length ≤ k := by
  unfold listUpto; rw [List.length_map]; exact Nat.le_trans (List.length_filter_le _ _) (by simp)
def listOf (s : Int) : List Int := if 0 ≤ s ∧ s ≤ 127 then listUpto s 7 else []
theorem listOf_out {s : Int} (h : (decide (0 ≤ s) && decide (s ≤ 127)) = false) : listOf s = [] := by unfold listOf; rw [if_neg]; rintro ⟨a, b⟩; simp [a, b] at h
theorem listOf_in {s : Int} (h : (decide (0 ≤ s) && decide (s ≤ 127)) = true) : listOf s = listUpto s 7 := by unfold listOf; rw [if_pos]; simpa using h
theorem listOf_len (s : Int) : (listOf s).length ≤ 7 := by unfold listOf; split; exact listUpto_len s 7; simp


/-- What a call says that hands back a list of its own. -/
def RetL (w : World) (xs : List Int) (e : Ending) (w' : World) : Prop := ∃ ao cap, e = .returned (.slice ao xs.length cap) ∧ Below w.heap.size w w' ∧ OwnL w' w.heap.size (.slice ao xs.length cap) xs





end Go.Proofs.YtfkehmpckhmkbaaDoor
