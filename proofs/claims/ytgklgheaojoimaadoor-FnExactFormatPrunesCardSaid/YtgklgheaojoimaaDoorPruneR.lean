/-
  Lists of prunes that a call itself makes and appends to.
-/
import Derived.Test.YtgklgheaojoimaaDoorPruneL
import Derived.Test.YtgklgheaojoimaaDoorFillS
import Derived.Deep.RegionLaw
namespace Go.Proofs.YtgklgheaojoimaaDoor
open Go.RowKit

theorem info_prune : (Tryd.prog.info? 68).map (fun i => (i.zero, i.size, i.bytes)) = some (some (.agg #[.int .i64 0, .int .i64 0, .int .i64 0]), 3, 24) := by kernel_rfl
/-- The cells of a prune. -/
def cellsP (p : Prn) : List Value := [.int .i64 (p.1 : Int), .int .i64 (p.2.1 : Int), .int .i64 p.2.2]
theorem flatP_map (ps : List Prn) (p : Prn) : (flatP (ps ++ [p])).map (Value.int .i64) = (flatP ps).map (Value.int .i64) ++ cellsP p := by rw [flatP_snoc]; simp [cellsP]
/-- The slice value v owns the prunes ps in a row of the call's own, from block 'base' on. -/
def OwnPL (w : World) (base : Nat) (v : Value) (ps : List Prn) : Prop := w.ownsRow base 68 3 v ps.length ((flatP ps).map (Value.int .i64))
def OwnP (w : World) (base : Nat) (ao : Option Addr) (cap : Nat) (ps : List Prn) : Prop := OwnPL w base (.slice ao ps.length cap) ps ∨ (ps = [] ∧ cap = 0 ∧ ao ≠ none)
theorem OwnPL.form {w : World} {base : Nat} {v : Value} {ps : List Prn} (h : OwnPL w base v ps) : ∃ ao cap, v = .slice ao ps.length cap := by
  obtain ⟨hl, ⟨h1, h2⟩ | ⟨g, cp, cur, hv, -⟩⟩ := h
  · exact ⟨none, 0, by rw [h1, h2]⟩
  · exact ⟨_, _, hv⟩
theorem OwnPL.mono {w : World} {base base' : Nat} {v : Value} {ps : List Prn} (h : OwnPL w base v ps) (hb : base' ≤ base) : OwnPL w base' v ps := by
  obtain ⟨h0, h1 | ⟨g, cap, cur, hv, hg, r⟩⟩ := h
  · exact ⟨h0, .inl h1⟩
  · exact ⟨h0, .inr ⟨g, cap, cur, hv, Nat.le_trans hb hg, r⟩⟩
theorem OwnPL.below {w w' : World} {base : Nat} {v : Value} {ps : List Prn} (h : OwnPL w base v ps) (hb : Below w.heap.size w w') : OwnPL w' base v ps := by
  obtain ⟨h0, h1 | ⟨g, cap, cur, hv, hg, hh, r⟩⟩ := h
  · exact ⟨h0, .inl h1⟩
  · exact ⟨h0, .inr ⟨g, cap, cur, hv, hg, by rw [hb.block g (Array.getElem?_eq_some_iff.1 hh).1]; exact hh, r⟩⟩
theorem OwnPL.lt {w : World} {base : Nat} {v : Value} {ps : List Prn} (h : OwnPL w base v ps) : ∀ k, v.ownBlock = some k → base ≤ k := by
  intro k hk
  obtain ⟨hl, ⟨h1, h2⟩ | ⟨g, cp, cur, hv, hg, -⟩⟩ := h
  · rw [h1] at hk; cases hk
  · rw [hv] at hk
    simp only [Value.ownBlock, Option.some.injEq] at hk
    omega
theorem OwnP.below {w w' : World} {base cap : Nat} {ao : Option Addr} {ps : List Prn} (h : OwnP w base ao cap ps) (hb : Below w.heap.size w w') : OwnP w' base ao cap ps := h.imp (fun h => h.below hb) id
theorem OwnP.mono {w : World} {base base' cap : Nat} {ao : Option Addr} {ps : List Prn} (h : OwnP w base ao cap ps) (hb : base' ≤ base) : OwnP w base' ao cap ps := h.imp (fun h => h.mono hb) id
theorem OwnP.nil (w : World) (base : Nat) : OwnP w base none 0 [] := .inl (World.ownsRow_nil _ _ _ _)
theorem OwnP.empty (w : World) (base : Nat) (a : Addr) : OwnP w base (some a) 0 [] := .inr ⟨rfl, rfl, by simp⟩
theorem OwnP.ints {w : World} {base cap : Nat} {ao : Option Addr} {ps : List Prn} (h : OwnP w base ao cap ps) : IntsAt w ao (flatP ps) := fun h0 => by
  rcases h with ⟨hl, ⟨h1, h2⟩ | ⟨g, cp, cur, hv, hg, hb, hn, hm, hsz, ht⟩⟩ | ⟨rfl, -, -⟩
  · have : ps = [] := List.eq_nil_of_length_eq_zero h2
    rw [this] at h0; simp [flatP] at h0
  · simp only [Value.slice.injEq] at hv
    obtain ⟨rfl, -, -⟩ := hv
    refine ⟨g, 0, rfl, (Array.getElem?_eq_some_iff.1 hb).1, fun k hk => ?_⟩
    have hk3 : k < ps.length * 3 := by rw [flatP_len] at hk; exact hk
    have : cur[k]? = some (.int .i64 (gi (flatP ps) k)) := by
      have e : (cur.toList.take (ps.length * 3))[k]? = ((flatP ps).map (Value.int .i64))[k]? := by rw [ht]
      rw [List.getElem?_take, if_pos hk3, Array.getElem?_toList] at e
      rw [e]; simp [gi, hk]
    rw [Nat.zero_add]
    simp only [World.cell?, hb]
    simpa using this
  · simp [flatP] at h0

/-- 'out = append(out, p)' at an operation: the prune stands in a block of its own. -/
theorem wp_append_p {o : Oper} {a : Act} {K : Act → World → Prop} {Q : Exit → Act → World → Prop} {w : World} (s x : Operand)
    (ho : o.op = .call { callee := .builtin .append, args := #[s, x], argTypes := #[51, 51] })
    (base cap : Nat) (ao : Option Addr) (ps : List Prn) (p : Prn) (B : Nat) (hs : a.eval s = .slice ao ps.length cap) (hown : OwnP w base ao cap ps) (hx : a.eval x = .slice (some ⟨B, 0, none⟩) 1 1)
    (c0 : w.cell? ⟨B, 0, none⟩ = some (.int .i64 (p.1 : Int))) (c1 : w.cell? ⟨B, 1, none⟩ = some (.int .i64 (p.2.1 : Int))) (c2 : w.cell? ⟨B, 2, none⟩ = some (.int .i64 p.2.2)) (hbase : base ≤ w.heap.size) (hlen : ps.length ≤ 1048576)
    (h : ∀ ao' cap' w', OwnP w' base ao' cap' (ps ++ [p]) → Below base w w' → K (a.put o.dst (.slice ao' (ps.length + 1) cap')) w') : o.wp Tryd.prog a w K Q := by
  have he : (ps ++ [p]).length = ps.length + 1 := by simp
  have hnews : ∀ j u, (cellsP p)[j]? = some u → w.cell? ((⟨B, 0, none⟩ : Addr).add j) = some u := by
    intro j u hj
    match j, hj with
    | 0, hj => simp [cellsP] at hj; subst hj; simpa [Addr.add] using c0
    | 1, hj => simp [cellsP] at hj; subst hj; simpa [Addr.add] using c1
    | 2, hj => simp [cellsP] at hj; subst hj; simpa [Addr.add] using c2
    | _ + 3, hj => simp [cellsP] at hj
  have h1 : ∀ u ∈ cellsP p, u.oneCell' = true := by intro u hu; simp [cellsP] at hu; rcases hu with rfl | rfl | rfl <;> rfl
  obtain ⟨i0, hi, hz0, hz1, hz2⟩ := info_parts info_prune
  rcases hown with hown | ⟨rfl, rfl, hne⟩
  · refine wp_append_own w s x 51 ho base 68 i0 (.agg #[.int .i64 0, .int .i64 0, .int .i64 0]) 3 24 Tryd.underlying51 hi hz0 hz1 hz2 rfl (by decide) (.slice ao ps.length cap) ps.length ((flatP ps).map (Value.int .i64)) hs hown
      ⟨B, 0, none⟩ 1 1 (cellsP p) hx rfl hnews h1 (by unfold maxLen; omega) (by omega) hbase ?_
    intro v' w' h1 h2 _
    have h3 : OwnPL w' base v' (ps ++ [p]) := by unfold OwnPL; rw [flatP_map, he]; exact h1
    obtain ⟨ao', cap', rfl⟩ := h3.form
    rw [he] at h3 ⊢
    refine h ao' cap' w' (.inl (by rw [he]; exact h3)) ?_
    exact (Below.refl base w).grown h2 hbase hown.lt
  · obtain ⟨b, rfl⟩ := Option.ne_none_iff_exists'.1 hne
    obtain ⟨v', w', hrun, r1, r2⟩ := run_append_arg_grows (P := Tryd.prog) w 51 o.type 68 i0 (.agg #[.int .i64 0, .int .i64 0, .int .i64 0]) 3 24 Tryd.underlying51 hi hz0 hz1 hz2 rfl (by decide) b 0 0 [] rfl (by simp) ⟨B, 0, none⟩ 1 1 (cellsP p) rfl hnews (by omega) (by unfold maxLen; omega) (by omega)
    have h3 : OwnPL w' base v' [p] := by
      have : OwnPL w' w.heap.size v' [p] := by unfold OwnPL; simpa [flatP, cellsP] using r1
      exact this.mono hbase
    obtain ⟨ao', cap', rfl⟩ := h3.form
    have hs' : a.eval s = .slice (some b) 0 0 := hs
    unfold Oper.wp
    simp only [execOp, ho, resolve, invoke, builtin, Sem.run_bind, Sem.run_pure, Result.andThen_ok, List.map_toArray, List.map_cons, List.map_nil, hs', hx, hrun]
    exact h ao' cap' w' (.inl h3) ((Below.refl base w).grown r2 hbase (fun k hk => by cases hk))
theorem step_append_p {ops : Array Oper} {o : Oper} {a : Act} {K : Act → World → Prop} {Q : Exit → Act → World → Prop} {E : Prop} {w : World} (hgd : o.guard = none) (s x : Operand)
    (ho : o.op = .call { callee := .builtin .append, args := #[s, x], argTypes := #[51, 51] })
    (base cap : Nat) (ao : Option Addr) (ps : List Prn) (p : Prn) (B : Nat) (hs : a.eval s = .slice ao ps.length cap) (hown : OwnP w base ao cap ps) (hx : a.eval x = .slice (some ⟨B, 0, none⟩) 1 1)
    (c0 : w.cell? ⟨B, 0, none⟩ = some (.int .i64 (p.1 : Int))) (c1 : w.cell? ⟨B, 1, none⟩ = some (.int .i64 (p.2.1 : Int))) (c2 : w.cell? ⟨B, 2, none⟩ = some (.int .i64 p.2.2)) (hbase : base ≤ w.heap.size) (hlen : ps.length ≤ 1048576)
    (h : ∀ ao' cap' w', OwnP w' base ao' cap' (ps ++ [p]) → Below base w w' → K (a.put o.dst (.slice ao' (ps.length + 1) cap')) w') :
    if Region.wanted o (yielded ops a.tmps) = true then Oper.wp Tryd.prog o a w K Q else E := by
  have hw : Region.wanted o (yielded ops a.tmps) = true := by simp [Region.wanted, hgd]
  rw [if_pos hw]
  exact wp_append_p s x ho base cap ao ps p B hs hown hx c0 c1 c2 hbase hlen h
theorem wpList_append_p {ops : Array Oper} {rest : List Oper} {o : Oper} {a : Act} {Q : Exit → Act → World → Prop} {w : World} (hgd : o.guard = none) (s x : Operand)
    (ho : o.op = .call { callee := .builtin .append, args := #[s, x], argTypes := #[51, 51] })
    (base cap : Nat) (ao : Option Addr) (ps : List Prn) (p : Prn) (B : Nat) (hs : a.eval s = .slice ao ps.length cap) (hown : OwnP w base ao cap ps) (hx : a.eval x = .slice (some ⟨B, 0, none⟩) 1 1)
    (c0 : w.cell? ⟨B, 0, none⟩ = some (.int .i64 (p.1 : Int))) (c1 : w.cell? ⟨B, 1, none⟩ = some (.int .i64 (p.2.1 : Int))) (c2 : w.cell? ⟨B, 2, none⟩ = some (.int .i64 p.2.2)) (hbase : base ≤ w.heap.size) (hlen : ps.length ≤ 1048576)
    (h : ∀ ao' cap' w', OwnP w' base ao' cap' (ps ++ [p]) → Below base w w' → wpList Tryd.prog ops Q rest (a.put o.dst (.slice ao' (ps.length + 1) cap')) w') : wpList Tryd.prog ops Q (o :: rest) a w :=
  wpList_plain hgd fun _ hK => wp_append_p s x ho base cap ao ps p B hs hown hx c0 c1 c2 hbase hlen fun ao' cap' w' h1 h2 => hK _ _ (h ao' cap' w' h1 h2)

/-! ### How a vertex can be taken away -/
/-- What the test of a prune returns. -/
def RetP (w : World) (p : Option Prn) (e : Ending) (w' : World) : Prop :=
  e = .returned (.tuple #[.agg #[.int .i64 ((p.getD (0, 0, 0)).1 : Int), .int .i64 ((p.getD (0, 0, 0)).2.1 : Int), .int .i64 (p.getD (0, 0, 0)).2.2], .bool p.isSome]) ∧ Below w.heap.size w w'

/-- The twins of kind 2 or 3. -/
def twk (rs : List Int) (S v k u : Nat) : Bool := if k = 3 then tw3 rs S v u else tw2 rs S v u
theorem twk_no {rs : List Int} {S v k u : Nat} (g : VG rs) (hv : v < rs.length) (h : u = v ∨ S.testBit u = false ∨ eb rs v u ≠ decide (k = 3)) : twk rs S v k u = false := by
  unfold twk
  by_cases hk : k = 3
  · rw [if_pos hk]
    unfold tw3
    rcases h with rfl | h | h
    · rw [eb_irr g hv]; simp
    · rw [h]; rfl
    · rw [decide_eq_true hk] at h
      rw [Bool.not_eq_true _ |>.mp h]; simp
  · rw [if_neg hk]
    unfold tw2
    rcases h with rfl | h | h
    · simp
    · rw [h]; simp
    · rw [decide_eq_false hk] at h
      have : eb rs v u = true := by revert h; cases eb rs v u <;> simp
      rw [this]; simp
theorem twk_is {rs : List Int} {S v k u : Nat} (g : VG rs) (hS : S < 2 ^ rs.length) (hv : S.testBit v = true) (hne : u ≠ v) (hu : S.testBit u = true) (he : eb rs v u = decide (k = 3)) :
    decide ((gn rs v &&& S) &&& (S - (2 ^ v ||| 2 ^ u)) = gn rs u &&& (S - (2 ^ v ||| 2 ^ u))) = twk rs S v k u := by
  unfold twk
  by_cases hk : k = 3
  · rw [decide_eq_true hk] at he
    rw [if_pos hk]; exact tw3_spec g hS hv hu he
  · rw [decide_eq_false hk] at he
    rw [if_neg hk]; exact tw2_spec g hS hv hu hne he


end Go.Proofs.YtgklgheaojoimaaDoor
