/-
  Lists of prunes that a call itself makes and appends to.
-/
import Derived.Test.YtjikmjhpmkakoaaGreatDoorPkCardHereditary23
import Derived.Test.YtjikmjhpmkakoaaGreatDoorPkCardHereditary21
import Derived.Deep.RegionLaw
namespace Go.Proofs.YtjikmjhpmkakoaaGreatDoor
open Go.RowKit

theorem info_prune : (Tryz.prog.info? 36).map (fun i => (i.zero, i.size, i.bytes)) = some (some (.agg #[.int .i64 0, .int .i64 0, .int .i64 0]), 3, 24) := by kernel_rfl
/-- The cells of a prune. -/
def cellsP (p : Prn) : List Value := [.int .i64 (p.1 : Int), .int .i64 (p.2.1 : Int), .int .i64 p.2.2]
theorem flatP_map (ps : List Prn) (p : Prn) : (flatP (ps ++ [p])).map (Value.int .i64) = (flatP ps).map (Value.int .i64) ++ cellsP p := by rw [flatP_snoc]; simp [cellsP]
/-- The slice value v owns the prunes ps in a row of the call's own, from block 'base' on. -/
def OwnPL (w : World) (base : Nat) (v : Value) (ps : List Prn) : Prop := w.ownsRow base 36 3 v ps.length ((flatP ps).map (Value.int .i64))
def OwnP (w : World) (base : Nat) (ao : Option Addr) (cap : Nat) (ps : List Prn) : Prop := OwnPL w base (.slice ao ps.length cap) ps ∨ (ps = [] ∧ cap = 0 ∧ ao ≠ none)
theorem OwnPL.form {w : World} {base : Nat} {v : Value} {ps : List Prn} (h : OwnPL w base v ps) : ∃ ao cap, v = .slice ao ps.length cap := by
  obtain ⟨hl, ⟨h1, h2⟩ | ⟨g, cp, cur, hv, -⟩⟩ := h
  · exact ⟨none, 0, by rw [h1, h2]⟩
  · exact ⟨_, _, hv⟩
theorem OwnPL.mono {w : World} {base base' : Nat} {v : Value} {ps : List Prn} (h : OwnPL w base v ps) (hb : base' ≤ base) : OwnPL w base' v ps := by
  obtain ⟨h0, h1 | ⟨g, cap, cur, hv, hg, r⟩⟩ := h
  · exact ⟨h0, .inl h1⟩
  · exact ⟨h0, .inr ⟨g, cap, cur, hv, Nat.le_trans hb hg, r⟩⟩
theorem OwnPL.below {w w' : World} {base : Nat} {v : Value} {ps : List Prn} (h : OwnPL w base v ps) (hb : Below w.heap.size w w') : OwnPL w' base v ps := by
  obtain ⟨h0, h1 | ⟨g, cap, cur, hv, hg, hh, r⟩⟩ := h
  · exact ⟨h0, .inl h1⟩
  · exact ⟨h0, .inr ⟨g, cap, cur, hv, hg, by rw [hb.block g (Array.getElem?_eq_some_iff.1 hh).1]; exact hh, r⟩⟩
theorem OwnPL.lt {w : World} {base : Nat} {v : Value} {ps : List Prn} (h : OwnPL w base v ps) : ∀ k, v.ownBlock = some k → base ≤ k := by
  intro k hk
  obtain ⟨hl, ⟨h1, h2⟩ | ⟨g, cp, cur, hv, hg, -⟩⟩ := h
  · rw [h1] at hk; cases hk
  · rw [hv] at hk
    simp only [Value.ownBlock, Option.some.injEq] at hk
    omega
theorem OwnP.below {w w' : World} {base cap : Nat} {ao : Option Addr} {ps : List Prn} (h : OwnP w base ao cap ps) (hb : Below w.heap.size w w') : OwnP w' base ao cap ps := h.imp (fun h => h.below hb) id
theorem OwnP.mono {w : World} {base base' cap : Nat} {ao : Option Addr} {ps : List Prn} (h : OwnP w base ao cap ps) (hb : base' ≤ base) : OwnP w base' ao cap ps := h.imp (fun h => h.mono hb) id
theorem OwnP.nil (w : World) (base : Nat) : OwnP w base none 0 [] := .inl (World.ownsRow_nil _ _ _ _)
theorem OwnP.empty (w : World) (base : Nat) (a : Addr) : OwnP w base (some a) 0 [] := .inr ⟨rfl, rfl, by simp⟩
theorem OwnP.ints {w : World} {base cap : Nat} {ao : Option Addr} {ps : List Prn} (h : OwnP w base ao cap ps) : IntsAt w ao (flatP ps) := fun h0 => by
  rcases h with ⟨hl, ⟨h1, h2⟩ | ⟨g, cp, cur, hv, hg, hb, hn, hm, hsz, ht⟩⟩ | ⟨rfl, -, -⟩
  · have : ps = [] := List.eq_nil_of_length_eq_zero h2
    rw [this] at h0; simp [flatP] at h0
  · simp only [Value.slice.injEq] at hv
    obtain ⟨rfl, -, -⟩ := hv
    refine ⟨g, 0, rfl, (Array.getElem?_eq_some_iff.1 hb).1, fun k hk => ?_⟩
    have hk3 : k < ps.length * 3 := by rw [flatP_len] at hk; exact hk
    have : cur[k]? = some (.int .i64 (gi (flatP ps) k)) := by
      have e : (cur.toList.take (ps.length * 3))[k]? = ((flatP ps).map (Value.int .i64))[k]? := by rw [ht]
      rw [List.getElem?_take, if_pos hk3, Array.getElem?_toList] at e
      rw [e]; simp [gi, hk]
    rw [Nat.zero_add]
    simp only [World.cell?, hb]
    simpa using this
  · simp [flatP] at h0

/-- 'out = append(out, p)' at an operation: the prune stands in a block of its own. -/
theorem wp_append_p {o : Oper} {a : Act} {K : Act → World → Prop} {Q : Exit → Act → World → Prop} {w : World} (s x : Operand)
    (ho : o.op = .call { callee := .builtin .append, args := #[s, x], argTypes := #[28, 28] })
    (base cap : Nat) (ao : Option Addr) (ps : List Prn) (p : Prn) (B : Nat) (hs : a.eval s = .slice ao ps.length cap) (hown : OwnP w base ao cap ps) (hx : a.eval x = .slice (some ⟨B, 0, none⟩) 1 1)
    (c0 : w.cell? ⟨B, 0, none⟩ = some (.int .i64 (p.1 : Int))) (c1 : w.cell? ⟨B, 1, none⟩ = some (.int .i64 (p.2.1 : Int))) (c2 : w.cell? ⟨B, 2, none⟩ = some (.int .i64 p.2.2)) (hbase : base ≤ w.heap.size) (hlen : ps.length ≤ 1048576)
    (h : ∀ ao' cap' w', OwnP w' base ao' cap' (ps ++ [p]) → Below base w w' → K (a.put o.dst (.slice ao' (ps.length + 1) cap')) w') : o.wp Tryz.prog a w K Q := by
  have he : (ps ++ [p]).length = ps.length + 1 := by simp
  have hnews : ∀ j u, (cellsP p)[j]? = some u → w.cell? ((⟨B, 0, none⟩ : Addr).add j) = some u := by
    intro j u hj
    match j, hj with
    | 0, hj => simp [cellsP] at hj; subst hj; simpa [Addr.add] using c0
    | 1, hj => simp [cellsP] at hj; subst hj; simpa [Addr.add] using c1
    | 2, hj => simp [cellsP] at hj; subst hj; simpa [Addr.add] using c2
    | _ + 3, hj => simp [cellsP] at hj
  have h1 : ∀ u ∈ cellsP p, u.oneCell' = true := by intro u hu; simp [cellsP] at hu; rcases hu with rfl | rfl | rfl <;> rfl
  obtain ⟨i0, hi, hz0, hz1, hz2⟩ := info_parts info_prune
  rcases hown with hown | ⟨rfl, rfl, hne⟩
  · refine wp_append_own w s x 28 ho base 36 i0 (.agg #[.int .i64 0, .int .i64 0, .int .i64 0]) 3 24 Tryz.underlying28 hi hz0 hz1 hz2 rfl (by decide) (.slice ao ps.length cap) ps.length ((flatP ps).map (Value.int .i64)) hs hown
      ⟨B, 0, none⟩ 1 1 (cellsP p) hx rfl hnews h1 (by unfold maxLen; omega) (by omega) hbase ?_
    intro v' w' h1 h2 _
    have h3 : OwnPL w' base v' (ps ++ [p]) := by unfold OwnPL; rw [flatP_map, he]; exact h1
    obtain ⟨ao', cap', rfl⟩ := h3.form
    rw [he] at h3 ⊢
    refine h ao' cap' w' (.inl (by rw [he]; exact h3)) ?_
    exact (Below.refl base w).grown h2 hbase hown.lt
  · obtain ⟨b, rfl⟩ := Option.ne_none_iff_exists'.1 hne
    obtain ⟨v', w', hrun, r1, r2⟩ := run_append_arg_grows (P := Tryz.prog) w 28 o.type 36 i0 (.agg #[.int .i64 0, .int .i64 0, .int .i64 0]) 3 24 Tryz.underlying28 hi hz0 hz1 hz2 rfl (by decide) b 0 0 [] rfl (by simp) ⟨B, 0, none⟩ 1 1 (cellsP p) rfl hnews (by omega) (by unfold maxLen; omega) (by omega)
    have h3 : OwnPL w' base v' [p] := by
      have : OwnPL w' w.heap.size v' [p] := by unfold OwnPL; simpa [flatP, cellsP] using r1
      exact this.mono hbase
    obtain ⟨ao', cap', rfl⟩ := h3.form
    have hs' : a.eval s = .slice (some b) 0 0 := hs
    unfold Oper.wp
    simp only [execOp, ho, resolve, invoke, builtin, Sem.run_bind, Sem.run_pure, Result.andThen_ok, List.map_toArray, List.map_cons, List.map_nil, hs', hx, hrun]
    exact h ao' cap' w' (.inl h3) ((Below.refl base w).grown r2 hbase (fun k hk => by cases hk))
theorem step_append_p {ops : Array Oper} {o : Oper} {a : Act} {K : Act → World → Prop} {Q : Exit → Act → World → Prop} {E : Prop} {w : World} (hgd : o.guard = none) (s x : Operand)
    (ho : o.op = .call { callee := .builtin .append, args := #[s, x], argTypes := #[28, 28] })
    (base cap : Nat) (ao : Option Addr) (ps : List Prn) (p : Prn) (B : Nat) (hs : a.eval s = .slice ao ps.length cap) (hown : OwnP w base ao cap ps) (hx : a.eval x = .slice (some ⟨B, 0, none⟩) 1 1)
    (c0 : w.cell? ⟨B, 0, none⟩ = some (.int .i64 (p.1 : Int))) (c1 : w.cell? ⟨B, 1, none⟩ = some (.int .i64 (p.2.1 : Int))) (c2 : w.cell? ⟨B, 2, none⟩ = some (.int .i64 p.2.2)) (hbase : base ≤ w.heap.size) (hlen : ps.length ≤ 1048576)
    (h : ∀ ao' cap' w', OwnP w' base ao' cap' (ps ++ [p]) → Below base w w' → K (a.put o.dst (.slice ao' (ps.length + 1) cap')) w') :
    if Region.wanted o (yielded ops a.tmps) = true then Oper.wp Tryz.prog o a w K Q else E := by
  have hw : Region.wanted o (yielded ops a.tmps) = true := by simp [Region.wanted, hgd]
  rw [if_pos hw]
  exact wp_append_p s x ho base cap ao ps p B hs hown hx c0 c1 c2 hbase hlen h
theorem wpList_append_p {ops : Array Oper} {rest : List Oper} {o : Oper} {a : Act} {Q : Exit → Act → World → Prop} {w : World} (hgd : o.guard = none) (s x : Operand)
    (ho : o.op = .call { callee := .builtin .append, args := #[s, x], argTypes := #[28, 28] })
    (base cap : Nat) (ao : Option Addr) (ps : List Prn) (p : Prn) (B : Nat) (hs : a.eval s = .slice ao ps.length cap) (hown : OwnP w base ao cap ps) (hx : a.eval x = .slice (some ⟨B, 0, none⟩) 1 1)
    (c0 : w.cell? ⟨B, 0, none⟩ = some (.int .i64 (p.1 : Int))) (c1 : w.cell? ⟨B, 1, none⟩ = some (.int .i64 (p.2.1 : Int))) (c2 : w.cell? ⟨B, 2, none⟩ = some (.int .i64 p.2.2)) (hbase : base ≤ w.heap.size) (hlen : ps.length ≤ 1048576)
    (h : ∀ ao' cap' w', OwnP w' base ao' cap' (ps ++ [p]) → Below base w w' → wpList Tryz.prog ops Q rest (a.put o.dst (.slice ao' (ps.length + 1) cap')) w') : wpList Tryz.prog ops Q (o :: rest) a w :=
  wpList_plain hgd fun _ hK => wp_append_p s x ho base cap ao ps p B hs hown hx c0 c1 c2 hbase hlen fun ao' cap' w' h1 h2 => hK _ _ (h ao' cap' w' h1 h2)

/-! ### How a vertex can be taken away -/
/-- What the test of a prune returns. -/
def RetP (w : World) (p : Option Prn) (e : Ending) (w' : World) : Prop :=
  e = .returned (.tuple #[.agg #[.int .i64 ((p.getD (0, 0, 0)).1 : Int), .int .i64 ((p.getD (0, 0, 0)).2.1 : Int), .int .i64 (p.getD (0, 0, 0)).2.2], .bool p.isSome]) ∧ Below w.heap.size w w'

/-- The twins of kind 2 or 3. -/
def twk (rs : List Int) (S v k u : Nat) : Bool := if k = 3 then tw3 rs S v u else tw2 rs S v u
theorem twk_no {rs : List Int} {S v k u : Nat} (g : VG rs) (hv : v < rs.length) (h : u = v ∨ S.testBit u = false ∨ eb rs v u ≠ decide (k = 3)) : twk rs S v k u = false := by
  unfold twk
  by_cases hk : k = 3
  · rw [if_pos hk]
    unfold tw3
    rcases h with rfl | h | h
    · rw [eb_irr g hv]; simp
    · rw [h]; rfl
    · rw [decide_eq_true hk] at h
      rw [Bool.not_eq_true _ |>.mp h]; simp
  · rw [if_neg hk]
    unfold tw2
    rcases h with rfl | h | h
    · simp
    · rw [h]; simp
    · rw [decide_eq_false hk] at h
      have : eb rs v u = true := by revert h; cases eb rs v u <;> simp
      rw [this]; simp
theorem twk_is {rs : List Int} {S v k u : Nat} (g : VG rs) (hS : S < 2 ^ rs.length) (hv : S.testBit v = true) (hne : u ≠ v) (hu : S.testBit u = true) (he : eb rs v u = decide (k = 3)) :
    decide ((gn rs v &&& S) &&& (S - (2 ^ v ||| 2 ^ u)) = gn rs u &&& (S - (2 ^ v ||| 2 ^ u))) = twk rs S v k u := by
  unfold twk
  by_cases hk : k = 3
  · rw [decide_eq_true hk] at he
    rw [if_pos hk]; exact tw3_spec g hS hv hu he
  · rw [decide_eq_false hk] at he
    rw [if_neg hk]; exact tw2_spec g hS hv hu hne he

set_option maxRecDepth 100000 in
set_option maxHeartbeats 4000000 in
theorem l21Prune_any (rs : List Int) (v S : Nat) (ro : Option Addr) (rc : Nat) (w : World) (g : VG rs) (hS : S < 2 ^ rs.length) (hv : S.testBit v = true) (hr : IntsAt w ro rs) :
    Calls Tryz.prog 49 #[.agg #[.int .i64 rs.length, .slice ro rs.length rc], .int .i64 v, .int .i64 S] w (RetP w (pruneV rs S v)) := by
  have hN7 := g.le
  have hp7 := g.pow.1
  have hvl := testBit_lt hS hv
  have hgv := g.lt128 hvl
  obtain ⟨rb, rofs, rfl, hrb, hrc⟩ := hr.graph g
  have hba : bits .and .i64 (gn rs v : Int) (S : Int) = ((gn rs v &&& S : Nat) : Int) := bits_and_nat _ _ (by omega) (by omega)
  have hn7 : gn rs v &&& S < 128 := Nat.lt_of_le_of_lt Nat.and_le_right (by omega)
  have hrl : rs.length ≤ 1048576 := by omega
  have hv6 : v ≤ 6 := by omega
  have hfin : ∀ (cs cs' : Array Value) (T T' : TypeId), Below w.heap.size w ((w.alloc (.cells cs T)).alloc (.cells cs' T')) := fun cs cs' T T' => ((Below.refl _ _).alloc (Nat.le_refl _) _).alloc (by simp) _
  have Hfin := Lib.hid hfin
  clear hfin
  by_cases h0 : gn rs v &&& S = 0
  · have HP := Lib.hid (pruneV_0 h0)
    rw [h0] at hba
    have hcv := hrc v hvl
    clear hn7 h0 hrc
    go_enter Tryz.func49, Tryz.ntmps49
    go_wp2_with fail
    refine bodyPost_ret (v := .tuple #[.agg #[.int .i64 v, .int .i64 0, .int .i64 (-1)], .bool true]) (by simp [results, Tryz.results49, go_sem]) rfl ?_
    exact ⟨by rw [HP.out]; rfl, Hfin.out _ _ _ _⟩
  · have d0 : (((gn rs v &&& S : Nat) : Int) == 0) = false := by rw [beq_eq_false_iff_ne]; omega
    have hcv := hrc v hvl
    have Hrc := Lib.hid hrc
    clear hrc
    have HS := Lib.hid h0
    have HP1 := Lib.hid (fun h1 => pruneV_1 (rs := rs) (S := S) (v := v) h0 h1)
    have HP2 := Lib.hid (fun w h1 h2 => pruneV_2 (rs := rs) (S := S) (v := v) (w := w) h0 h1 h2)
    have HP3 := Lib.hid (fun w h1 h2 h3 => pruneV_3 (rs := rs) (S := S) (v := v) (w := w) h0 h1 h2 h3)
    have HP4 := Lib.hid (fun h1 h2 h3 => pruneV_no (rs := rs) (S := S) (v := v) h0 h1 h2 h3)
    have HTw := Lib.hid (fun k u hne hu he => twk_is (k := k) (u := u) g hS hv hne hu he)
    have HTn := Lib.hid (fun k u h => twk_no (S := S) (k := k) (u := u) g hvl h)
    have Hlow := Lib.hid (low_facts hn7 h0)
    have Hn7 := Lib.hid hn7
    have hC := fun w : World => specCount_any (gn rs v &&& S) hn7 w
    have hLi := fun w : World => specListB_any (gn rs v &&& S) hn7 w
    clear h0
    go_enter Tryz.func49, Tryz.ntmps49
    go_wp2_with fail
    generalize hW : World.alloc _ _ = W1
    obtain ⟨hB, hs, k0, k1⟩ := alloc2 hW
    have b0 := k0.lt
    have c0 := k0.cell 0
    have c1 := k0.cell 1
    simp at c0 c1
    have rb1 := Nat.lt_of_lt_of_le hrb hB.size
    have Hrc1 := Lib.hid (fun k (hk : k < rs.length) => (hB.cell (p := ⟨rb, rofs + k, none⟩) hrb).trans (Hrc.out k hk))
    have hr1 := hr.below hB
    have HFin : Hid (∀ (m : Later W1) (a b c : Int), Below w.heap.size w (((m.w.setCell ⟨w.heap.size + 1, 0, none⟩ (.int .i64 a)).setCell ⟨w.heap.size + 1, 1, none⟩ (.int .i64 b)).setCell ⟨w.heap.size + 1, 2, none⟩ (.int .i64 c))) := Lib.hid fun m a b c =>
      (((below_later hB m).setCell (by simp) _).setCell (by simp) _).setCell (by simp) _
    have z0 := k1.cell 0
    have z1 := k1.cell 1
    have z2 := k1.cell 2
    have z3 := k1.frozen 0
    have z4 := k1.frozen 1
    have z5 := k1.frozen 2
    have b1 := k1.lt
    simp at z0 z1 z2
    clear hW k0 k1 hs hrb hcv Hfin hr Hrc
    have Hhr1 := Lib.hid hr1
    clear hr1
    have HhB := Lib.hid hB
    clear hB
    obtain ⟨m, hm0⟩ : ∃ m : Later W1, m.w = W1 := ⟨Later.refl _, rfl⟩
    refine (fun h => hm0 ▸ h) ?_
    clear hm0
    refine (Calls.later _ (hC m.w)).mono ?_
    rintro e w' ⟨rfl, m, rfl⟩
    clear hC
    by_cases hc1 : cnt (gn rs v &&& S) = 1
    · have HP := Lib.hid (HP1.out hc1)
      have hlow : eln (els (gn rs v &&& S)) 0 = low (gn rs v &&& S) := rfl
      have hcn : 0 < (els (gn rs v &&& S)).length := Hlow.out.2.2
      rw [hc1]
      rw [hc1] at hLi
      clear HP1 HP2 HP3 HP4 HTw HTn hc1 Hlow Hn7 hn7
      generalize low (gn rs v &&& S) = L at *
      generalize els (gn rs v &&& S) = E at *
      generalize gn rs v &&& S = n at *
      go_wp2_with fail
      refine (hLi m.w).mono ?_
      rintro e w3 ⟨ao, ac, rfl, hB3, hN⟩
      obtain ⟨g3, rfl, -, hg3, hc3⟩ := hN hcn
      have hc30 := hc3 0 hcn
      rw [hlow] at hc30
      obtain ⟨m, rfl⟩ : ∃ m2 : Later W1, m2.w = w3 := ⟨m.on hB3, rfl⟩
      clear hB3 hc3 hLi hN hlow hcn
      go_wp2_with fail
      have q0 := (m.cell _ _ b1).trans z0
      have q1 := (m.cell _ _ b1).trans z1
      have q2 := (m.cell _ _ b1).trans z2
      refine bodyPost_ret (v := .tuple #[.agg #[.int .i64 v, .int .i64 1, .int .i64 L], .bool true]) (by simp [results, Tryz.results49, go_sem, q0, q1, q2]) rfl ?_
      exact ⟨by rw [HP.out]; rfl, HFin.out m _ _ _⟩
    · have d1 : (((cnt (gn rs v &&& S) : Nat) : Int) == 1) = false := by rw [beq_eq_false_iff_ne]; omega
      have hnle : gn rs v &&& S ≤ 127 := by omega
      have Hc1 := Lib.hid hc1
      clear hc1 hLi Hlow HP1
      generalize cnt (gn rs v &&& S) = cn at *
      have HBA : Hid (∀ A : Nat, A < 128 → bits .and .i64 ((gn rs v &&& S : Nat) : Int) (A : Int) = (((gn rs v &&& S) &&& A : Nat) : Int)) := Lib.hid fun A hA => bits_and_nat _ _ (by omega) (by omega)
      go_wp2_with fail
      go_loopw [9] (fun k wr => (∃ m : Later W1, wr = m.w) ∧ ∃ kn : Nat, 2 ≤ kn ∧ kn ≤ 4 ∧ k = .int .i64 kn ∧ (3 ≤ kn → ∀ j, j < rs.length → twk rs S v 2 j = false) ∧ (4 ≤ kn → ∀ j, j < rs.length → twk rs S v 3 j = false)) (fun k _ => 4 - (intOf k).toNat)
      case atStart => exact ⟨⟨m, rfl⟩, 2, by omega, by omega, rfl, fun h => by omega, fun h => by omega⟩
      case round =>
        obtain ⟨⟨m, rfl⟩, kn, hk2, hk4, rfl, hT2, hT3⟩ := hrel
        have HT2 := Lib.hid hT2
        have HT3 := Lib.hid hT3
        clear hT2 hT3
        by_cases hkl : kn ≤ 3
        · have HRes : Hid (∀ j, firstB (twk rs S v kn) rs.length = some j → pruneV rs S v = some (v, kn, (j : Int))) := Lib.hid fun j h => by
            by_cases h3 : kn = 3
            · subst h3
              exact HP3.out j Hc1.out (firstB_none fun i hi => HT2.out (by omega) i hi) h
            · obtain rfl : kn = 2 := by omega
              exact HP2.out j Hc1.out h
          have HStep2 : Hid ((∀ i, i < rs.length → twk rs S v kn i = false) → (3 ≤ kn + 1 → ∀ j, j < rs.length → twk rs S v 2 j = false) ∧ (4 ≤ kn + 1 → ∀ j, j < rs.length → twk rs S v 3 j = false)) := Lib.hid fun h =>
            ⟨fun _ => by
              by_cases h3 : kn = 2
              · subst h3; exact h
              · exact HT2.out (by omega), fun _ => by
              obtain rfl : kn = 3 := by omega
              exact h⟩
          have dk : decide ((kn : Int) ≤ 3) = true := decide_eq_true (by omega)
          go_wp2_with fail
          go_loopw [10] (fun i wr => (∃ m : Later W1, wr = m.w) ∧ ∃ j : Nat, j ≤ rs.length ∧ i = .int .i64 j ∧ ∀ i, i < j → twk rs S v kn i = false) (fun i _ => rs.length - (intOf i).toNat)
          case atStart => exact ⟨⟨m, rfl⟩, 0, by omega, rfl, fun j h => by omega⟩
          case round =>
            obtain ⟨⟨m, rfl⟩, j, hj, rfl, hJ⟩ := hrel
            have HJ := Lib.hid hJ
            clear hJ
            by_cases hjt : j < rs.length
            · have hor : bits .or .i64 (pwN v) (pwN j) = ((2 ^ v ||| 2 ^ j : Nat) : Int) := by
                have h1 := Nat.pow_le_pow_right (n := 2) (by decide) (show v ≤ 6 by omega)
                have h2 := Nat.pow_le_pow_right (n := 2) (by decide) (show j ≤ 6 by omega)
                rw [pwN_small v (by omega), pwN_small j (by omega), bits_or_nat _ _ (by omega) (by omega)]
              have hor2 : bits .or .i64 ((2 : Int) ^ v) ((2 : Int) ^ j) = ((2 ^ v ||| 2 ^ j : Nat) : Int) := by rw [← hor, pwN_small v (by omega), pwN_small j (by omega)]; simp
              have hEd := fun m : Later W1 => l2Edge_any rs v j _ rc m.w (Hhr1.out.later m) g hvl hjt
              have HEE : Hid ((gn rs v).testBit j = eb rs v j) := rfl
              rw [HEE.out] at hEd
              have hcj := Hrc1.out j hjt
              have HSb : Hid (hasN (S : Int) j = S.testBit j) := hasN_nat _ _
              go_wp2_with fail
              refine wp_region_later m rfl (by kernel_rfl) (by kernel_rfl) ?_
              repeat (go_big_quiet_step (fail))
              refine wpQuiet_nil ?_
              rintro _ ⟨m, rfl⟩
              have HJn : Hid (twk rs S v kn j = false → ∀ i, i < j + 1 → twk rs S v kn i = false) := Lib.hid fun h => all_succ HJ.out h
              have HK3 : Hid (decide (kn = 3) = ((kn : Int) == 3)) := Lib.hid (by rw [Bool.eq_iff_iff]; simp; omega)
              by_cases hjv : j = v
              · have d3 : ((j : Int) != (v : Int)) = false := by subst hjv; simp
                have hf := HJn.out (HTn.out kn j (.inl hjv))
                clear hjv hEd hcj HEE HSb HK3
                have Hhf := Lib.hid hf
                clear hf
                go_wp2_with fail
                go_roundw
                case rel => exact ⟨⟨m, rfl⟩, j + 1, by omega, by go_num, Hhf.out⟩
                case measure => simp [intOf]; omega
              have d3 : ((j : Int) != (v : Int)) = true := by rw [bne_iff_ne]; omega
              cases hSj : S.testBit j
              · have d4 : hasN (S : Int) j = false := by rw [HSb.out]; exact hSj
                have hf := HJn.out (HTn.out kn j (.inr (.inl hSj)))
                clear hSj hEd hcj HEE HSb HK3
                have Hhf := Lib.hid hf
                clear hf
                go_wp2_with fail
                go_roundw
                case rel => exact ⟨⟨m, rfl⟩, j + 1, by omega, by go_num, Hhf.out⟩
                case measure => simp [intOf]; omega
              have d4 : hasN (S : Int) j = true := by rw [HSb.out]; exact hSj
              have HSj := Lib.hid hSj
              have Hjv := Lib.hid hjv
              clear hSj hjv HSb
              have hsub := (pair_sub hv HSj.out).le
              have HD : Hid (eb rs v j = ((kn : Int) == 3) → decide ((gn rs v &&& S) &&& (S - (2 ^ v ||| 2 ^ j)) = gn rs j &&& (S - (2 ^ v ||| 2 ^ j))) = twk rs S v kn j) := Lib.hid fun h => HTw.out kn j Hjv.out HSj.out (by rw [h, HK3.out])
              have HE3 : Hid (eb rs v j ≠ ((kn : Int) == 3) → twk rs S v kn j = false) := Lib.hid fun h => HTn.out kn j (.inr (.inr (by rw [HK3.out]; exact h)))
              generalize hE : eb rs v j = E at *
              generalize hK : ((kn : Int) == 3) = K3 at *
              have hgj := g.lt128 hjt
              have hba1 := HBA.out (S - (2 ^ v ||| 2 ^ j)) (by omega)
              have hba2 : bits .and .i64 (gn rs j : Int) ((S - (2 ^ v ||| 2 ^ j) : Nat) : Int) = ((gn rs j &&& (S - (2 ^ v ||| 2 ^ j)) : Nat) : Int) := bits_and_nat _ _ (by omega) (by omega)
              have hsb : (S : Int) - ((2 ^ v ||| 2 ^ j : Nat) : Int) = ((S - (2 ^ v ||| 2 ^ j) : Nat) : Int) := by omega
              have hp1 : 2 ^ v ||| 2 ^ j ≤ 127 := by omega
              have hS7 : S ≤ 127 := by omega
              clear hE HEE HK3
              by_cases hEK : E = K3
              · subst hEK
                have HD2 := Lib.hid (HD.out rfl)
                have hHit := Lib.hid (fun h : twk rs S v kn j = true => firstB_hit (p := twk rs S v kn) hjt HJ.out h)
                clear HD HE3
                generalize S - (2 ^ v ||| 2 ^ j) = M at *
                generalize 2 ^ v ||| 2 ^ j = PR at *
                generalize (gn rs v &&& S) &&& M = X1 at *
                generalize gn rs j &&& M = X2 at *
                by_cases hX : X1 = X2
                · have hX' : ((X1 : Int) == (X2 : Int)) = true := by rw [hX]; simp
                  have ht : twk rs S v kn j = true := by rw [← HD2.out]; exact decide_eq_true hX
                  have hfi := hHit.out ht
                  clear ht hX HD2 hHit
                  have Hhfi := Lib.hid hfi
                  clear hfi
                  go_wp2_with fail
                  refine (Calls.later _ (hEd m)).mono ?_
                  rintro e w' ⟨rfl, m, rfl⟩
                  clear hEd
                  go_wp2_with fail
                  have q0 := (m.cell _ _ b1).trans z0
                  have q1 := (m.cell _ _ b1).trans z1
                  have q2 := (m.cell _ _ b1).trans z2
                  refine bodyPost_ret (v := .tuple #[.agg #[.int .i64 v, .int .i64 kn, .int .i64 j], .bool true]) (by simp [results, Tryz.results49, go_sem, q0, q1, q2]) rfl ?_
                  exact ⟨by rw [HRes.out j Hhfi.out]; rfl, HFin.out m _ _ _⟩
                · have hX' : ((X1 : Int) == (X2 : Int)) = false := by rw [beq_eq_false_iff_ne]; omega
                  have ht : twk rs S v kn j = false := by rw [← HD2.out]; exact decide_eq_false hX
                  have hf := HJn.out ht
                  clear ht hX HD2 hHit
                  have Hhf := Lib.hid hf
                  clear hf
                  go_wp2_with fail
                  refine (Calls.later _ (hEd m)).mono ?_
                  rintro e w' ⟨rfl, m, rfl⟩
                  clear hEd
                  go_wp2_with fail
                  go_roundw
                  case rel => exact ⟨⟨m, rfl⟩, j + 1, by omega, by go_num, Hhf.out⟩
                  case measure => simp [intOf]; omega
              · have d5 : (E == K3) = false := by rw [beq_eq_false_iff_ne]; exact hEK
                have hf := HJn.out (HE3.out hEK)
                clear hEK HD HE3 hba1 hba2 hsb
                have Hhf := Lib.hid hf
                clear hf
                go_wp2_with fail
                refine (Calls.later _ (hEd m)).mono ?_
                rintro e w' ⟨rfl, m, rfl⟩
                clear hEd
                go_wp2_with fail
                go_roundw
                case rel => exact ⟨⟨m, rfl⟩, j + 1, by omega, by go_num, Hhf.out⟩
                case measure => simp [intOf]; omega
            · obtain rfl : j = rs.length := by omega
              have hn := HStep2.out HJ.out
              have Hhn := Lib.hid hn
              clear hn
              go_wp2_with fail
              go_roundw
              case rel => exact ⟨⟨m, rfl⟩, kn + 1, by omega, by omega, by go_num, Hhn.out.1, Hhn.out.2⟩
              case measure => simp [intOf]; omega
        · have hP := HP4.out Hc1.out (firstB_none fun i hi => HT2.out (by omega) i hi) (firstB_none fun i hi => HT3.out (by omega) i hi)
          have HhP := Lib.hid hP
          clear hP
          have q0 := (m.cell _ _ b1).trans z0
          have q1 := (m.cell _ _ b1).trans z1
          have q2 := (m.cell _ _ b1).trans z2
          go_wp2_with fail
          refine bodyPost_ret (v := .tuple #[.agg #[.int .i64 0, .int .i64 0, .int .i64 0], .bool false]) (by simp [results, Tryz.results49, go_sem, q0, q1, q2]) rfl ?_
          exact ⟨by rw [HhP.out]; rfl, HFin.out m _ _ _⟩

end Go.Proofs.YtjikmjhpmkakoaaGreatDoor
