/-
  matched, l20Match and MatchingOf on both sides. For at most 2^20 rows.
-/
import Derived.Test.YtgklgheaojoimaaPk44
import Derived.Test.YtgklgheaojoimaaRegB
import Derived.Deep.CutRange
namespace Go.Proofs.Ytgklgheaojoimaa
open Go.RowKit

/-- The cells behind ao are xs. -/
def CellsV (w : World) (ao : Option Addr) (xs : List Value) : Prop :=
  0 < xs.length → ∃ b off, ao = some ⟨b, off, none⟩ ∧ b < w.heap.size ∧ ∀ k u, xs[k]? = some u → w.cell? ⟨b, off + k, none⟩ = some u
theorem CellsV.below {w w' : World} {ao : Option Addr} {xs : List Value} (h : CellsV w ao xs) (hb : Below w.heap.size w w') : CellsV w' ao xs := fun h0 => by
  obtain ⟨b, off, h1, h2, h3⟩ := h h0
  exact ⟨b, off, h1, Nat.lt_of_lt_of_le h2 hb.size, fun k u hk => by rw [hb.cell (p := ⟨b, off + k, none⟩) h2]; exact h3 k u hk⟩
theorem CellsV.later {W : World} {ao : Option Addr} {xs : List Value} (h : CellsV W ao xs) (m : Later W) : CellsV m.w ao xs := h.below m.below
theorem OwnV.cellsV {w : World} {base n cap : Nat} {ao : Option Addr} {xs : List Value} (h : OwnV w base (.slice ao n cap) xs) : CellsV w ao xs := fun h0 => by
  obtain ⟨g, h1, -, h2, h3⟩ := h.cells h0
  exact ⟨g, 0, h1, h2, fun k u hk => by rw [Nat.zero_add]; exact h3 k u hk⟩
theorem ValsOf.tail {w : World} {x : Value} {xs : List Value} {e : Nat × Nat} {es : List (Nat × Nat)} (h : ValsOf w (x :: xs) (e :: es)) : ValsOf w xs es :=
  ⟨by have := h.1; simpa using this, fun k d hk => h.2 (k + 1) d (by simpa using hk)⟩
theorem ValsOf.head {w : World} {x : Value} {xs : List Value} {e : Nat × Nat} {es : List (Nat × Nat)} (h : ValsOf w (x :: xs) (e :: es)) : ∃ g, x = .slice (some ⟨g, 0, none⟩) 2 2 ∧ g < w.heap.size ∧ w.cell? ⟨g, 0, none⟩ = some (.int .i64 e.1) ∧ w.cell? ⟨g, 1, none⟩ = some (.int .i64 e.2) := by
  obtain ⟨g, h1, h2⟩ := h.2 0 e rfl
  have k0 : Blk w g #[.int .i64 e.1, .int .i64 e.2] 3 := h2
  have c0 := k0.cell 0
  have c1 := k0.cell 1
  simp at c0 c1
  exact ⟨g, by simpa using h1, k0.lt, c0, c1⟩
theorem ValsOf.cons {w : World} {x : Value} {xs ys : List Value} {e : Nat × Nat} {es ds : List (Nat × Nat)} (h : ValsOf w (x :: xs) (e :: es)) (hy : ValsOf w ys ds) : ValsOf w (x :: ys) (e :: ds) :=
  ⟨by simp [hy.1], fun k d hk => by
    cases k with
    | zero => exact h.2 0 d (by simpa using hk)
    | succ k => exact hy.2 k d (by simpa using hk)⟩

/-- A list of pairs that a call has put together out of others. -/
def RetM (w : World) (es : List (Nat × Nat)) (e : Ending) (w' : World) : Prop :=
  ∃ ao cap xs, e = .returned (.slice (some ao) xs.length cap) ∧ Below w.heap.size w w' ∧ OwnV w' w.heap.size (.slice (some ao) xs.length cap) xs ∧ ValsOf w' xs es

/-- 'append([][]int{e}, rest...)' at a step of a region that draws its order. -/
theorem step_append_rows {ops : Array Oper} {o : Oper} {a : Act} {K : Act → World → Prop} {Q : Exit → Act → World → Prop} {E : Prop} {w : World} (hgd : o.guard = none) (s x : Operand)
    (ho : o.op = .call { callee := .builtin .append, args := #[s, x], argTypes := #[35, 35] })
    (base : Nat) (v : Value) (xs ys : List Value) (ad : Addr) (bc : Nat) (hs : a.eval s = v) (hown : OwnV w base v xs) (hx : a.eval x = .slice (some ad) ys.length bc)
    (hc : CellsV w (some ad) ys) (h1 : ∀ u ∈ ys, u.oneCell' = true) (hbase : base ≤ w.heap.size) (hlen : xs.length + ys.length ≤ 1048576)
    (h : ∀ ao' cap' w', OwnV w' base (.slice (some ao') (xs.length + ys.length) cap') (xs ++ ys) → Below base w w' → (∀ zs es, ValsOf w zs es → ValsOf w' zs es) → K (a.put o.dst (.slice (some ao') (xs.length + ys.length) cap')) w') (hne : v ≠ .slice none 0 0) :
    if Region.wanted o (yielded ops a.tmps) = true then Oper.wp Try.prog o a w K Q else E := by
  have hw : Region.wanted o (yielded ops a.tmps) = true := by simp [Region.wanted, hgd]
  rw [if_pos hw]
  obtain ⟨i0, hi, hz0, hz1, hz2⟩ := info_parts info_row
  refine wp_append_own w s x 35 ho base 24 i0 (.slice none 0 0) 1 24 Try.underlying35 hi hz0 hz1 hz2 rfl (by decide) v xs.length xs hs hown ad ys.length bc ys hx (by simp) ?_ h1 (by unfold maxLen; omega) (by omega) hbase ?_
  · intro j u hj
    have h0 : 0 < ys.length := by
      obtain ⟨hl, -⟩ := List.getElem?_eq_some_iff.1 hj
      omega
    obtain ⟨b, off, e, -, h3⟩ := hc h0
    simp only [Option.some.injEq] at e
    subst e
    have h5 := h3 j u hj
    simp only [Addr.add]
    split
    · rename_i h6; subst h6; simpa using h5
    · exact h5
  · intro v' w' h1 h2 h3
    have h4 : OwnV w' base v' (xs ++ ys) := by unfold OwnV; simpa using h1
    obtain ⟨ao, cap, rfl⟩ := h4.form
    have e : (xs ++ ys).length = xs.length + ys.length := by simp
    rw [e] at h3 h4 ⊢
    cases ao with
    | none =>
      exfalso
      obtain ⟨hl, ⟨k1, k2⟩ | ⟨g, cp, cur, hv, -⟩⟩ := h4
      · exact hne (h3.1 k1).1
      · cases hv
    | some ao => exact h ao cap w' h4 ((Below.refl base w).grown h2 hbase hown.own) fun zs es hz => hz.grown hown h2

theorem OwnV.one (w : World) (x : Value) : OwnV (w.alloc (.cells #[x] 24)) w.heap.size (.slice (some ⟨w.heap.size, 0, none⟩) 1 1) [x] :=
  ⟨by simp, .inr ⟨w.heap.size, 1, #[x], rfl, Nat.le_refl _, by show (w.heap.push _)[w.heap.size]? = _; simp, by simp, by unfold maxLen; omega, by simp, by simp⟩⟩
theorem OwnV.drew {w : World} {base : Nat} {v : Value} {xs : List Value} (h : OwnV w base v xs) : OwnV w.drew base v xs := h
theorem useE_lt {used : Nat} {e : Nat × Nat} (h : used < 128) (h1 : e.1 < 7) (h2 : e.2 < 7) : useE used e < 128 :=
  Nat.or_lt_two_pow (n := 7) (Nat.or_lt_two_pow (n := 7) h (Nat.pow_lt_pow_right (by decide) h1)) (Nat.pow_lt_pow_right (by decide) h2)
theorem bestM_len (es : List (Nat × Nat)) (used : Nat) : (bestM es used).length ≤ es.length := (bestM_sub es used).length_le
theorem ValsOf.cells1 {w : World} {xs : List Value} {es : List (Nat × Nat)} (h : ValsOf w xs es) : ∀ u ∈ xs, u.oneCell' = true := fun u hu => by
  obtain ⟨k, hk, rfl⟩ := List.mem_iff_getElem.1 hu
  obtain ⟨g, h1, -⟩ := h.2 k (es[k]'(by rw [← h.1]; exact hk)) (List.getElem?_eq_getElem _)
  rw [List.getElem?_eq_getElem hk] at h1
  simp only [Option.some.injEq] at h1
  rw [h1]; rfl

set_option maxRecDepth 100000 in
set_option maxHeartbeats 1600000 in
theorem implMatched_any : ∀ (es : List (Nat × Nat)) (xs : List Value) (ao : Option Addr) (n cap used : Nat) (w : World), n = xs.length → CellsV w ao xs → ValsOf w xs es → n ≤ cap → (∀ e ∈ es, e.1 < 7 ∧ e.2 < 7) → used < 128 → es.length ≤ 49 →
    Calls Try.prog 87 #[.slice ao n cap, .int .i64 used] w (RetM w (bestM es used)) := by
  intro es
  induction es with
  | nil =>
    intro xs ao n cap used w hn hc hv hcap _ hu _
    obtain rfl : xs = [] := List.length_eq_zero_iff.1 hv.1
    subst hn
    clear hc hv hcap
    go_enter Try.func87, Try.ntmps87
    go_wp2_with fail
    go_ret
    exact ⟨_, 0, [], rfl, (Below.refl _ _).alloc (Nat.le_refl _) _, OwnV.empty w, ValsOf.nil _⟩
  | cons e es ih =>
    intro xs ao n cap used w hn hc hv hcap hes hu hl
    obtain ⟨x, xs, rfl⟩ : ∃ x ys, xs = x :: ys := by
      cases xs with
      | nil => exact absurd hv.1 (by simp)
      | cons x ys => exact ⟨x, ys, rfl⟩
    obtain ⟨g, rfl, hg, x0, x1⟩ := hv.head
    obtain ⟨b, off, rfl, hb, hcb⟩ := hc (by simp)
    have z0 := hcb 0 _ rfl
    rw [Nat.add_zero] at z0
    have hvt := hv.tail
    obtain ⟨m1, m2⟩ := hes e (by simp)
    have hxl : xs.length = es.length := hvt.1
    have hn1 : n = xs.length + 1 := by simpa using hn
    have hxs : xs.length ≤ 48 := by simp at hl; omega
    have hes48 : es.length ≤ 48 := by simp at hl; omega
    subst hn1
    clear hn
    have q1 := fun w => has_any (used : Int) (e.1 : Int) (by omega) (by omega) w
    have q2 := fun w => has_any (used : Int) (e.2 : Int) (by omega) (by omega) w
    simp only [Int.toNat_natCast, hasN_nat] at q1 q2
    have hU := useE_lt hu m1 m2
    have t1 : 2 ^ e.1 < 128 := Nat.pow_lt_pow_right (a := 2) (n := 7) (by decide) m1
    have t2 : 2 ^ e.2 < 128 := Nat.pow_lt_pow_right (a := 2) (n := 7) (by decide) m2
    have p1 : pwN e.1 = ((2 ^ e.1 : Nat) : Int) := pwN_small e.1 (by omega)
    have p2 : pwN e.2 = ((2 ^ e.2 : Nat) : Int) := pwN_small e.2 (by omega)
    have t3 : used ||| 2 ^ e.1 < 128 := Nat.or_lt_two_pow (n := 7) hu t1
    have u1 : bits .or .i64 (used : Int) ((2 ^ e.1 : Nat) : Int) = ((used ||| 2 ^ e.1 : Nat) : Int) := bits_or_nat _ _ (by omega) (by omega)
    have u2 : bits .or .i64 ((used ||| 2 ^ e.1 : Nat) : Int) ((2 ^ e.2 : Nat) : Int) = ((useE used e : Nat) : Int) := bits_or_nat _ _ (by omega) (by omega)
    have HH := Lib.hid (fun h => bestM_hit (e := e) (t := es) (used := used) h)
    have HT := Lib.hid (fun h1 h2 => bestM_take (e := e) (t := es) (used := used) h1 h2)
    have HL := Lib.hid (fun h1 h2 => bestM_leave (e := e) (t := es) (used := used) h1 h2)
    have HF : Hid (∀ b1 b2, used.testBit e.1 = b1 → used.testBit e.2 = b2 → hitE used e = (b1 || b2)) := Lib.hid fun b1 b2 h1 h2 => by unfold hitE; rw [h1, h2]
    generalize useE used e = U2 at *
    generalize used ||| 2 ^ e.1 = U1 at *
    generalize 2 ^ e.1 = Ta at *
    generalize 2 ^ e.2 = Tc at *
    by_cases hcap1 : cap = 1
    · subst hcap1
      obtain rfl : xs = [] := List.length_eq_zero_iff.1 (by omega)
      have hct : ∀ w', Below w.heap.size w w' → CellsV w' (some ⟨b, off, none⟩) [] := fun w' h => CellsV.below (fun h0 => absurd h0 (by simp)) h
      have hih := fun (used : Nat) (w' : World) (h : Below w.heap.size w w') (hu : used < 128) => ih [] (some ⟨b, off, none⟩) 0 0 used w' rfl (hct w' h) (hvt.below h) (Nat.le_refl _) (fun d hd => hes d (List.mem_cons_of_mem _ hd)) hu (by simp at hl; omega)
      clear hcb ih hct hvt hl hes hxl
      have Hhv := Lib.hid hv
      clear hv
      clear hxs hcap
      go_enter Try.func87, Try.ntmps87
      go_wp2_with fail
      with_reducible refine (hih used w (Below.refl _ _) hu).mono ?_
      rintro e1 w2 ⟨a2, c2, xs2, rfl, hB2, hO2, hV2⟩
      have hs2 := hB2.size
      have y0 : w2.cell? ⟨g, 0, none⟩ = _ := (hB2.cell (p := ⟨g, 0, none⟩) hg).trans x0
      have y1 : w2.cell? ⟨g, 1, none⟩ = _ := (hB2.cell (p := ⟨g, 1, none⟩) hg).trans x1
      have hg2 : g < w2.heap.size := Nat.lt_of_lt_of_le hg hs2
      have hih2 : ∀ w', Below w2.heap.size w2 w' → Calls Try.prog 87 #[.slice (some ⟨b, off, none⟩) 0 0, .int .i64 U2] w' (RetM w' (bestM es U2)) := fun w' h => hih U2 w' (hB2.trans (h.mono hs2)) hU
      have hv2 := Hhv.out.below hB2
      have HV2 := Lib.hid hV2.1
      clear hih x0 x1 z0 hb hg
      have HhO2 := Lib.hid hO2
      clear hO2
      have HhV2 := Lib.hid hV2
      clear hV2
      have HhB2 := Lib.hid hB2
      clear hB2
      have Hhv2 := Lib.hid hv2
      clear hv2
      have Hhih2 := Lib.hid hih2
      clear hih2
      cases hu1 : used.testBit e.1
      rotate_left
      · rw [hu1] at q1
        go_wp2_with fail
        refine (q1 _).mono ?_
        rintro e w' ⟨rfl, rfl⟩
        go_wp2_with fail
        go_ret
        exact ⟨a2, c2, xs2, rfl, HhB2.out, HhO2.out, by rw [HH.out (HF.out _ _ hu1 rfl)]; exact HhV2.out⟩
      rw [hu1] at q1
      cases hu2 : used.testBit e.2
      rotate_left
      · rw [hu2] at q2
        go_wp2_with fail
        refine (q1 _).mono ?_
        rintro e w' ⟨rfl, rfl⟩
        go_wp2_with fail
        refine (q2 _).mono ?_
        rintro e w' ⟨rfl, rfl⟩
        go_wp2_with fail
        go_ret
        exact ⟨a2, c2, xs2, rfl, HhB2.out, HhO2.out, by rw [HH.out (HF.out _ _ hu1 hu2)]; exact HhV2.out⟩
      rw [hu2] at q2
      go_wp2_with fail
      refine (q1 _).mono ?_
      rintro e w' ⟨rfl, rfl⟩
      go_wp2_with fail
      refine (q2 _).mono ?_
      rintro e w' ⟨rfl, rfl⟩
      go_wp2_with fail
      clear q1 q2
      have hS' : ∀ w', Below w2.heap.size w2 w' → Below w2.heap.size w2 w' ∧ w'.cell? ⟨g, 0, none⟩ = some (.int .i64 e.1) ∧ w'.cell? ⟨g, 1, none⟩ = some (.int .i64 e.2) := fun w' h => ⟨h, (h.cell hg2).trans y0, (h.cell hg2).trans y1⟩
      clear y0 y1
      have hA : Below w2.heap.size w2 (w2.alloc (.cells #[Value.slice (some ⟨g, 0, none⟩) 2 2] 24)).drew := ((Below.refl _ _).alloc (Nat.le_refl _) _).drew
      refine wp_region_B (fun w' => Below w2.heap.size w2 w' ∧ w'.cell? ⟨g, 0, none⟩ = some (.int .i64 e.1) ∧ w'.cell? ⟨g, 1, none⟩ = some (.int .i64 e.2)) (fun _ => True) [] (by kernel_rfl) (hS' _ (Below.refl _ _).drew) (trivial) (fun hM => ?_)
      refine wpAnyB_take (i := 0) (v := ?_) false rfl (by kernel_rfl) (by kernel_rfl) (by kernel_rfl) (by kernel_rfl) (by kernel_rfl) (fun _ _ _ h => h) (Or.inl ⟨by rfl, ?_⟩) hM (fun hM2 => ?_)
      rotate_left
      · (intro w hSw; replace hSw := hSw.1; (try dsimp only at hSw); go_simp; try with_reducible rfl)
      replace hM := hM2
      clear hM2
      try simp only [List.getElem_toArray, List.getElem_cons_zero, Act.put, List.setIfInBounds_toArray, List.set_cons_zero, List.set_cons_succ]
      refine wpAnyB_take (i := 2) (v := ?_) false rfl (by kernel_rfl) (by kernel_rfl) (by kernel_rfl) (by kernel_rfl) (by kernel_rfl) (fun _ _ _ h => h) (Or.inl ⟨by rfl, ?_⟩) hM (fun hM2 => ?_)
      rotate_left
      · (intro w hSw; replace hSw := hSw.1; (try dsimp only at hSw); go_simp; try with_reducible rfl)
      replace hM := hM2
      clear hM2
      try simp only [List.getElem_toArray, List.getElem_cons_succ, List.getElem_cons_zero, Act.put, List.setIfInBounds_toArray, List.set_cons_zero, List.set_cons_succ]
      refine wpAnyB_take (i := 3) (v := ?_) false rfl (by kernel_rfl) (by kernel_rfl) (by kernel_rfl) (by kernel_rfl) (by kernel_rfl) (fun _ _ _ h => h) (Or.inl ⟨by rfl, ?_⟩) hM (fun hM2 => ?_)
      rotate_left
      · (intro w hSw; replace hSw := hSw.1; (try dsimp only at hSw); go_simp; try with_reducible rfl)
      replace hM := hM2
      clear hM2
      try simp only [List.getElem_toArray, List.getElem_cons_succ, List.getElem_cons_zero, Act.put, List.setIfInBounds_toArray, List.set_cons_zero, List.set_cons_succ]
      refine wpAnyB_take (i := 4) (v := ?_) false rfl (by kernel_rfl) (by kernel_rfl) (by kernel_rfl) (by kernel_rfl) (by kernel_rfl) (fun _ _ _ h => h) (Or.inl ⟨by rfl, ?_⟩) hM (fun hM2 => ?_)
      rotate_left
      · (intro w hSw; replace hSw := hSw.1; (try dsimp only at hSw); go_simp; try with_reducible rfl)
      replace hM := hM2
      clear hM2
      try simp only [List.getElem_toArray, List.getElem_cons_succ, List.getElem_cons_zero, Act.put, List.setIfInBounds_toArray, List.set_cons_zero, List.set_cons_succ]
      refine wpAnyB_take (i := 5) (v := ?_) false rfl (by kernel_rfl) (by kernel_rfl) (by kernel_rfl) (by kernel_rfl) (by kernel_rfl) (fun _ _ _ h => h) (Or.inl ⟨by rfl, ?_⟩) hM (fun hM2 => ?_)
      rotate_left
      · (intro w hSw; replace hSw := hSw.1; (try dsimp only at hSw); go_simp; try with_reducible rfl)
      replace hM := hM2
      clear hM2
      try simp only [List.getElem_toArray, List.getElem_cons_succ, List.getElem_cons_zero, Act.put, List.setIfInBounds_toArray, List.set_cons_zero, List.set_cons_succ]
      refine wpAnyB_take (i := 6) (v := ?_) false rfl (by kernel_rfl) (by kernel_rfl) (by kernel_rfl) (by kernel_rfl) (by kernel_rfl) (fun _ _ _ h => h) (Or.inl ⟨by rfl, ?_⟩) hM (fun hM2 => ?_)
      rotate_left
      · (intro w hSw; replace hSw := hSw.1; (try dsimp only at hSw); go_simp; try with_reducible rfl)
      replace hM := hM2
      clear hM2
      try simp only [List.getElem_toArray, List.getElem_cons_succ, List.getElem_cons_zero, Act.put, List.setIfInBounds_toArray, List.set_cons_zero, List.set_cons_succ]
      refine wpAnyB_take (i := 7) (v := ?_) false rfl (by kernel_rfl) (by kernel_rfl) (by kernel_rfl) (by kernel_rfl) (by kernel_rfl) (fun _ _ _ h => h) (Or.inl ⟨by rfl, ?_⟩) hM (fun hM2 => ?_)
      rotate_left
      · (intro w hSw; replace hSw := hSw.1; (try dsimp only at hSw); go_simp; try with_reducible rfl)
      replace hM := hM2
      clear hM2
      try simp only [List.getElem_toArray, List.getElem_cons_succ, List.getElem_cons_zero, Act.put, List.setIfInBounds_toArray, List.set_cons_zero, List.set_cons_succ]
      refine wpAnyB_take (i := 8) (v := ?_) false rfl (by kernel_rfl) (by kernel_rfl) (by kernel_rfl) (by kernel_rfl) (by kernel_rfl) (fun _ _ _ h => h) (Or.inl ⟨by rfl, ?_⟩) hM (fun hM2 => ?_)
      rotate_left
      · (intro w hSw; replace hSw := hSw.1; (try dsimp only at hSw); go_simp; try with_reducible rfl)
      replace hM := hM2
      clear hM2
      try simp only [List.getElem_toArray, List.getElem_cons_succ, List.getElem_cons_zero, Act.put, List.setIfInBounds_toArray, List.set_cons_zero, List.set_cons_succ]
      refine wpAnyB_take (i := 9) (v := ?_) false rfl (by kernel_rfl) (by kernel_rfl) (by kernel_rfl) (by kernel_rfl) (by kernel_rfl) (fun _ _ _ h => h) (Or.inl ⟨by rfl, ?_⟩) hM (fun hM2 => ?_)
      rotate_left
      · (intro w hSw; replace hSw := hSw.1; (try dsimp only at hSw); go_simp; try with_reducible rfl)
      replace hM := hM2
      clear hM2
      try simp only [List.getElem_toArray, List.getElem_cons_succ, List.getElem_cons_zero, Act.put, List.setIfInBounds_toArray, List.set_cons_zero, List.set_cons_succ]
      refine wpAnyB_take (i := 10) (v := ?_) false rfl (by kernel_rfl) (by kernel_rfl) (by kernel_rfl) (by kernel_rfl) (by kernel_rfl) (fun _ _ _ h => h) (Or.inl ⟨by rfl, ?_⟩) hM (fun hM2 => ?_)
      rotate_left
      · (intro w hSw; replace hSw := hSw.1; (try dsimp only at hSw); go_simp; try with_reducible rfl)
      replace hM := hM2
      clear hM2
      try simp only [List.getElem_toArray, List.getElem_cons_succ, List.getElem_cons_zero, Act.put, List.setIfInBounds_toArray, List.set_cons_zero, List.set_cons_succ]
      refine wpAnyB_take (i := 11) (v := ?_) false rfl (by kernel_rfl) (by kernel_rfl) (by kernel_rfl) (by kernel_rfl) (by kernel_rfl) (fun _ _ _ h => h) (Or.inl ⟨by rfl, ?_⟩) hM (fun hM2 => ?_)
      rotate_left
      · (intro w hSw; replace hSw := hSw.1; (try dsimp only at hSw); go_simp; try with_reducible rfl)
      replace hM := hM2
      clear hM2
      try simp only [List.getElem_toArray, List.getElem_cons_succ, List.getElem_cons_zero, Act.put, List.setIfInBounds_toArray, List.set_cons_zero, List.set_cons_succ]
      refine wpAnyB_take (i := 12) (v := ?_) false rfl (by kernel_rfl) (by kernel_rfl) (by kernel_rfl) (by kernel_rfl) (by kernel_rfl) (fun _ _ _ h => h) (Or.inl ⟨by rfl, ?_⟩) hM (fun hM2 => ?_)
      rotate_left
      · (intro w hSw; replace hSw := hSw.1; (try dsimp only at hSw); go_simp; try with_reducible rfl)
      replace hM := hM2
      clear hM2
      try simp only [List.getElem_toArray, List.getElem_cons_succ, List.getElem_cons_zero, Act.put, List.setIfInBounds_toArray, List.set_cons_zero, List.set_cons_succ]
      refine wpAnyB_take (i := 13) (v := ?_) false rfl (by kernel_rfl) (by kernel_rfl) (by kernel_rfl) (by kernel_rfl) (by kernel_rfl) (fun _ _ _ h => h) (Or.inl ⟨by rfl, ?_⟩) hM (fun hM2 => ?_)
      rotate_left
      · (intro w hSw; replace hSw := hSw.1; (try dsimp only at hSw); go_simp; try with_reducible rfl)
      replace hM := hM2
      clear hM2
      try simp only [List.getElem_toArray, List.getElem_cons_succ, List.getElem_cons_zero, Act.put, List.setIfInBounds_toArray, List.set_cons_zero, List.set_cons_succ]
      refine wpAnyB_take (i := 14) (v := ?_) false rfl (by kernel_rfl) (by kernel_rfl) (by kernel_rfl) (by kernel_rfl) (by kernel_rfl) (fun _ _ _ h => h) (Or.inl ⟨by rfl, ?_⟩) hM (fun hM2 => ?_)
      rotate_left
      · (intro w hSw; replace hSw := hSw.1; (try dsimp only at hSw); go_simp; try with_reducible rfl)
      replace hM := hM2
      clear hM2
      try simp only [List.getElem_toArray, List.getElem_cons_succ, List.getElem_cons_zero, Act.put, List.setIfInBounds_toArray, List.set_cons_zero, List.set_cons_succ]
      refine wpAnyB_two (i := 1) (j := 15) (by kernel_rfl) rfl rfl (fun K hK => ?_) (fun K hK => ?_)
      · go_simp
        refine hK.out _ _ (meetB.both (hS' _ hA) trivial) (fun hM2 => ?_)
        clear hK K
        replace hM := hM2
        clear hM2
        try simp only [List.getElem_toArray, List.getElem_cons_succ, List.getElem_cons_zero, Act.put, List.setIfInBounds_toArray, List.set_cons_zero, List.set_cons_succ]
        refine wpAnyB_one (i := 15) (by kernel_rfl) rfl (fun K hK => ?_)
        (go_simp; go_at_call 87; refine (Hhih2.out _ (hA)).mono ?_; rintro e3 w3 ⟨a3, c3, xs3, rfl, hB4, hO4, hV4⟩; have hB5 : Below w2.heap.size w2 w3 := below_more (hA) hB4; dsimp only)
        refine hK.out _ _ (meetB.both (hS' _ hB5) trivial) (fun hM2 => ?_)
        clear hK K
        replace hM := hM2
        clear hM2
        try simp only [List.getElem_toArray, List.getElem_cons_succ, List.getElem_cons_zero, Act.put, List.setIfInBounds_toArray, List.set_cons_zero, List.set_cons_succ]
        refine wpAnyB_one (i := 16) (by kernel_rfl) rfl (fun K hK => ?_)
        (refine step_append_rows (by rfl) _ _ (by rfl) w2.heap.size _ [Value.slice (some ⟨g, 0, none⟩) 2 2] xs3 a3 c3 (by rfl) (((OwnV.one _ _).drew).below hB4) (by rfl) (hO4.cellsV) hV4.cells1 (hB5).size (by have := hV4.1; have := bestM_len es U2; simp; omega) ?_ (by simp); intro ao5 cap5 w5 hO5 hB6 hG6; have hB7 := (hB5).trans hB6)
        refine hK.out _ _ (meetB.both (hS' _ hB7) trivial) (fun hM2 => ?_)
        clear hK K
        replace hM := hM2
        clear hM2
        try simp only [List.getElem_toArray, List.getElem_cons_succ, List.getElem_cons_zero, Act.put, List.setIfInBounds_toArray, List.set_cons_zero, List.set_cons_succ]
        refine wpAnyB_take (i := 17) (v := ?_) false rfl (by kernel_rfl) (by kernel_rfl) (by kernel_rfl) (by kernel_rfl) (by kernel_rfl) (fun _ _ _ h => h) (Or.inl ⟨by rfl, ?_⟩) hM (fun hM2 => ?_)
        rotate_left
        · (intro w hSw; replace hSw := hSw.1; (try dsimp only at hSw); go_simp; try with_reducible rfl)
        replace hM := hM2
        clear hM2
        try simp only [List.getElem_toArray, List.getElem_cons_succ, List.getElem_cons_zero, Act.put, List.setIfInBounds_toArray, List.set_cons_zero, List.set_cons_succ]
        refine wpAnyB_done (by kernel_rfl) ?_ _
        have hV5 : ValsOf w5 (Value.slice (some ⟨g, 0, none⟩) 2 2 :: xs3) (e :: bestM es U2) := hG6 _ _ ((Hhv2.out.below (hB5)).cons (hV4))
        clear hG6 hM hS' hA
        have hO6 : OwnV w5 w.heap.size (.slice (some ao5) (Value.slice (some ⟨g, 0, none⟩) 2 2 :: xs3).length cap5) (Value.slice (some ⟨g, 0, none⟩) 2 2 :: xs3) := by
          have h := hO5.mono hs2
          have e : 1 + xs3.length = (Value.slice (some ⟨g, 0, none⟩) 2 2 :: xs3).length := by simp [Nat.add_comm]
          rw [← e]
          exact h
        have hE6 : Value.slice (some ao5) (1 + xs3.length) cap5 = .slice (some ao5) (Value.slice (some ⟨g, 0, none⟩) 2 2 :: xs3).length cap5 := by simp [Nat.add_comm]
        have hB9 := HhB2.out.trans (hB7.mono hs2)
        have hV9 := HhV2.out.below hB7
        have hO9 := HhO2.out.below hB7
        have hl5 := hV5.1
        simp only [List.length_cons] at hl5
        by_cases hcmp : (bestM es used).length ≤ (bestM es U2).length + 1
        · have d1 : decide ((xs2.length : Int) ≤ ((1 + xs3.length : Nat) : Int)) = true := decide_eq_true (by have := HV2.out; omega)
          have d2 : decide ((xs2.length : Int) ≤ 1 + (xs3.length : Int)) = true := decide_eq_true (by have := HV2.out; omega)
          clear hl5 hO5 hB7
          have HhO6 := Lib.hid hO6
          clear hO6
          have HhE6 := Lib.hid hE6
          clear hE6
          have HhB9 := Lib.hid hB9
          clear hB9
          have HhV9 := Lib.hid hV9
          clear hV9
          have HhO9 := Lib.hid hO9
          clear hO9
          have HhV5 := Lib.hid hV5
          clear hV5
          have Hhcmp := Lib.hid hcmp
          clear hcmp
          go_wp2_with fail
          go_ret
          exact ⟨ao5, cap5, Value.slice (some ⟨g, 0, none⟩) 2 2 :: xs3, congrArg Ending.returned HhE6.out, HhB9.out, HhO6.out, by rw [HT.out (HF.out _ _ hu1 hu2) Hhcmp.out]; exact HhV5.out⟩
        · have d1 : decide ((xs2.length : Int) ≤ ((1 + xs3.length : Nat) : Int)) = false := decide_eq_false (by have := HV2.out; omega)
          have d2 : decide ((xs2.length : Int) ≤ 1 + (xs3.length : Int)) = false := decide_eq_false (by have := HV2.out; omega)
          clear hl5 hO5 hB7
          have HhO6 := Lib.hid hO6
          clear hO6
          have HhE6 := Lib.hid hE6
          clear hE6
          have HhB9 := Lib.hid hB9
          clear hB9
          have HhV9 := Lib.hid hV9
          clear hV9
          have HhO9 := Lib.hid hO9
          clear hO9
          have HhV5 := Lib.hid hV5
          clear hV5
          have Hhcmp := Lib.hid hcmp
          clear hcmp
          go_wp2_with fail
          go_ret
          exact ⟨a2, c2, xs2, rfl, HhB9.out, HhO9.out, by rw [HL.out (HF.out _ _ hu1 hu2) Hhcmp.out]; exact HhV9.out⟩
      · (go_simp; go_at_call 87; refine (Hhih2.out _ ((Below.refl _ _).drew)).mono ?_; rintro e3 w3 ⟨a3, c3, xs3, rfl, hB4, hO4, hV4⟩; have hB5 : Below w2.heap.size w2 w3 := below_more ((Below.refl _ _).drew) hB4; dsimp only)
        refine hK.out _ _ (meetB.both (hS' _ hB5) trivial) (fun hM2 => ?_)
        clear hK K
        replace hM := hM2
        clear hM2
        try simp only [List.getElem_toArray, List.getElem_cons_succ, List.getElem_cons_zero, Act.put, List.setIfInBounds_toArray, List.set_cons_zero, List.set_cons_succ]
        have hB8 : Below w2.heap.size w2 (w3.alloc (.cells #[Value.slice (some ⟨g, 0, none⟩) 2 2] 24)) := hB5.alloc hB5.size _
        refine wpAnyB_one (i := 1) (by kernel_rfl) rfl (fun K hK => ?_)
        go_simp
        refine hK.out _ _ (meetB.both (hS' _ hB8) trivial) (fun hM2 => ?_)
        clear hK K
        replace hM := hM2
        clear hM2
        try simp only [List.getElem_toArray, List.getElem_cons_succ, List.getElem_cons_zero, Act.put, List.setIfInBounds_toArray, List.set_cons_zero, List.set_cons_succ]
        refine wpAnyB_one (i := 16) (by kernel_rfl) rfl (fun K hK => ?_)
        (refine step_append_rows (by rfl) _ _ (by rfl) w2.heap.size _ [Value.slice (some ⟨g, 0, none⟩) 2 2] xs3 a3 c3 (by rfl) ((OwnV.one _ _).mono hB5.size) (by rfl) ((hO4.alloc _).cellsV) hV4.cells1 (hB8).size (by have := hV4.1; have := bestM_len es U2; simp; omega) ?_ (by simp); intro ao5 cap5 w5 hO5 hB6 hG6; have hB7 := (hB8).trans hB6)
        refine hK.out _ _ (meetB.both (hS' _ hB7) trivial) (fun hM2 => ?_)
        clear hK K
        replace hM := hM2
        clear hM2
        try simp only [List.getElem_toArray, List.getElem_cons_succ, List.getElem_cons_zero, Act.put, List.setIfInBounds_toArray, List.set_cons_zero, List.set_cons_succ]
        refine wpAnyB_take (i := 17) (v := ?_) false rfl (by kernel_rfl) (by kernel_rfl) (by kernel_rfl) (by kernel_rfl) (by kernel_rfl) (fun _ _ _ h => h) (Or.inl ⟨by rfl, ?_⟩) hM (fun hM2 => ?_)
        rotate_left
        · (intro w hSw; replace hSw := hSw.1; (try dsimp only at hSw); go_simp; try with_reducible rfl)
        replace hM := hM2
        clear hM2
        try simp only [List.getElem_toArray, List.getElem_cons_succ, List.getElem_cons_zero, Act.put, List.setIfInBounds_toArray, List.set_cons_zero, List.set_cons_succ]
        refine wpAnyB_done (by kernel_rfl) ?_ _
        have hV5 : ValsOf w5 (Value.slice (some ⟨g, 0, none⟩) 2 2 :: xs3) (e :: bestM es U2) := hG6 _ _ ((Hhv2.out.below (hB8)).cons (hV4.below ((Below.refl _ _).alloc (Nat.le_refl _) _)))
        clear hG6 hM hS' hA
        have hO6 : OwnV w5 w.heap.size (.slice (some ao5) (Value.slice (some ⟨g, 0, none⟩) 2 2 :: xs3).length cap5) (Value.slice (some ⟨g, 0, none⟩) 2 2 :: xs3) := by
          have h := hO5.mono hs2
          have e : 1 + xs3.length = (Value.slice (some ⟨g, 0, none⟩) 2 2 :: xs3).length := by simp [Nat.add_comm]
          rw [← e]
          exact h
        have hE6 : Value.slice (some ao5) (1 + xs3.length) cap5 = .slice (some ao5) (Value.slice (some ⟨g, 0, none⟩) 2 2 :: xs3).length cap5 := by simp [Nat.add_comm]
        have hB9 := HhB2.out.trans (hB7.mono hs2)
        have hV9 := HhV2.out.below hB7
        have hO9 := HhO2.out.below hB7
        have hl5 := hV5.1
        simp only [List.length_cons] at hl5
        by_cases hcmp : (bestM es used).length ≤ (bestM es U2).length + 1
        · have d1 : decide ((xs2.length : Int) ≤ ((1 + xs3.length : Nat) : Int)) = true := decide_eq_true (by have := HV2.out; omega)
          have d2 : decide ((xs2.length : Int) ≤ 1 + (xs3.length : Int)) = true := decide_eq_true (by have := HV2.out; omega)
          clear hl5 hO5 hB7
          have HhO6 := Lib.hid hO6
          clear hO6
          have HhE6 := Lib.hid hE6
          clear hE6
          have HhB9 := Lib.hid hB9
          clear hB9
          have HhV9 := Lib.hid hV9
          clear hV9
          have HhO9 := Lib.hid hO9
          clear hO9
          have HhV5 := Lib.hid hV5
          clear hV5
          have Hhcmp := Lib.hid hcmp
          clear hcmp
          go_wp2_with fail
          go_ret
          exact ⟨ao5, cap5, Value.slice (some ⟨g, 0, none⟩) 2 2 :: xs3, congrArg Ending.returned HhE6.out, HhB9.out, HhO6.out, by rw [HT.out (HF.out _ _ hu1 hu2) Hhcmp.out]; exact HhV5.out⟩
        · have d1 : decide ((xs2.length : Int) ≤ ((1 + xs3.length : Nat) : Int)) = false := decide_eq_false (by have := HV2.out; omega)
          have d2 : decide ((xs2.length : Int) ≤ 1 + (xs3.length : Int)) = false := decide_eq_false (by have := HV2.out; omega)
          clear hl5 hO5 hB7
          have HhO6 := Lib.hid hO6
          clear hO6
          have HhE6 := Lib.hid hE6
          clear hE6
          have HhB9 := Lib.hid hB9
          clear hB9
          have HhV9 := Lib.hid hV9
          clear hV9
          have HhO9 := Lib.hid hO9
          clear hO9
          have HhV5 := Lib.hid hV5
          clear hV5
          have Hhcmp := Lib.hid hcmp
          clear hcmp
          go_wp2_with fail
          go_ret
          exact ⟨a2, c2, xs2, rfl, HhB9.out, HhO9.out, by rw [HL.out (HF.out _ _ hu1 hu2) Hhcmp.out]; exact HhV9.out⟩
    · have hcap2 : 1 < cap := by omega
      have h11 : (1 : Int) ≤ (xs.length : Int) + 1 := by omega
      have hcap3 : ¬cap - 1 = 0 := by omega
      have hct : ∀ w', Below w.heap.size w w' → CellsV w' (some ⟨b, off + 1, none⟩) xs := fun w' h => CellsV.below (fun h0 => ⟨b, off + 1, rfl, hb, fun k u hk => by
          have := hcb (k + 1) u (by simpa using hk)
          rw [Nat.add_assoc, Nat.add_comm 1 k]; exact this⟩) h
      have hih := fun (used : Nat) (w' : World) (h : Below w.heap.size w w') (hu : used < 128) => ih xs (some ⟨b, off + 1, none⟩) xs.length (cap - 1) used w' rfl (hct w' h) (hvt.below h) (by omega) (fun d hd => hes d (List.mem_cons_of_mem _ hd)) hu (by simp at hl; omega)
      clear hcb ih hct hvt hl hes hxl
      have Hhv := Lib.hid hv
      clear hv
      go_enter Try.func87, Try.ntmps87
      go_wp2_with fail
      with_reducible refine (hih used w (Below.refl _ _) hu).mono ?_
      rintro e1 w2 ⟨a2, c2, xs2, rfl, hB2, hO2, hV2⟩
      have hs2 := hB2.size
      have y0 : w2.cell? ⟨g, 0, none⟩ = _ := (hB2.cell (p := ⟨g, 0, none⟩) hg).trans x0
      have y1 : w2.cell? ⟨g, 1, none⟩ = _ := (hB2.cell (p := ⟨g, 1, none⟩) hg).trans x1
      have hg2 : g < w2.heap.size := Nat.lt_of_lt_of_le hg hs2
      have hih2 : ∀ w', Below w2.heap.size w2 w' → Calls Try.prog 87 #[.slice (some ⟨b, off + 1, none⟩) xs.length (cap - 1), .int .i64 U2] w' (RetM w' (bestM es U2)) := fun w' h => hih U2 w' (hB2.trans (h.mono hs2)) hU
      have hv2 := Hhv.out.below hB2
      have HV2 := Lib.hid hV2.1
      clear hih x0 x1 z0 hb hg
      have HhO2 := Lib.hid hO2
      clear hO2
      have HhV2 := Lib.hid hV2
      clear hV2
      have HhB2 := Lib.hid hB2
      clear hB2
      have Hhv2 := Lib.hid hv2
      clear hv2
      have Hhih2 := Lib.hid hih2
      clear hih2
      cases hu1 : used.testBit e.1
      rotate_left
      · rw [hu1] at q1
        go_wp2_with fail
        refine (q1 _).mono ?_
        rintro e w' ⟨rfl, rfl⟩
        go_wp2_with fail
        go_ret
        exact ⟨a2, c2, xs2, rfl, HhB2.out, HhO2.out, by rw [HH.out (HF.out _ _ hu1 rfl)]; exact HhV2.out⟩
      rw [hu1] at q1
      cases hu2 : used.testBit e.2
      rotate_left
      · rw [hu2] at q2
        go_wp2_with fail
        refine (q1 _).mono ?_
        rintro e w' ⟨rfl, rfl⟩
        go_wp2_with fail
        refine (q2 _).mono ?_
        rintro e w' ⟨rfl, rfl⟩
        go_wp2_with fail
        go_ret
        exact ⟨a2, c2, xs2, rfl, HhB2.out, HhO2.out, by rw [HH.out (HF.out _ _ hu1 hu2)]; exact HhV2.out⟩
      rw [hu2] at q2
      go_wp2_with fail
      refine (q1 _).mono ?_
      rintro e w' ⟨rfl, rfl⟩
      go_wp2_with fail
      refine (q2 _).mono ?_
      rintro e w' ⟨rfl, rfl⟩
      go_wp2_with fail
      clear q1 q2
      have hS' : ∀ w', Below w2.heap.size w2 w' → Below w2.heap.size w2 w' ∧ w'.cell? ⟨g, 0, none⟩ = some (.int .i64 e.1) ∧ w'.cell? ⟨g, 1, none⟩ = some (.int .i64 e.2) := fun w' h => ⟨h, (h.cell hg2).trans y0, (h.cell hg2).trans y1⟩
      clear y0 y1
      have hA : Below w2.heap.size w2 (w2.alloc (.cells #[Value.slice (some ⟨g, 0, none⟩) 2 2] 24)).drew := ((Below.refl _ _).alloc (Nat.le_refl _) _).drew
      refine wp_region_B (fun w' => Below w2.heap.size w2 w' ∧ w'.cell? ⟨g, 0, none⟩ = some (.int .i64 e.1) ∧ w'.cell? ⟨g, 1, none⟩ = some (.int .i64 e.2)) (fun _ => True) [] (by kernel_rfl) (hS' _ (Below.refl _ _).drew) (trivial) (fun hM => ?_)
      refine wpAnyB_take (i := 0) (v := ?_) false rfl (by kernel_rfl) (by kernel_rfl) (by kernel_rfl) (by kernel_rfl) (by kernel_rfl) (fun _ _ _ h => h) (Or.inl ⟨by rfl, ?_⟩) hM (fun hM2 => ?_)
      rotate_left
      · (intro w hSw; replace hSw := hSw.1; (try dsimp only at hSw); go_simp; try with_reducible rfl)
      replace hM := hM2
      clear hM2
      try simp only [List.getElem_toArray, List.getElem_cons_zero, Act.put, List.setIfInBounds_toArray, List.set_cons_zero, List.set_cons_succ]
      refine wpAnyB_take (i := 2) (v := ?_) false rfl (by kernel_rfl) (by kernel_rfl) (by kernel_rfl) (by kernel_rfl) (by kernel_rfl) (fun _ _ _ h => h) (Or.inl ⟨by rfl, ?_⟩) hM (fun hM2 => ?_)
      rotate_left
      · (intro w hSw; replace hSw := hSw.1; (try dsimp only at hSw); go_simp; try with_reducible rfl)
      replace hM := hM2
      clear hM2
      try simp only [List.getElem_toArray, List.getElem_cons_succ, List.getElem_cons_zero, Act.put, List.setIfInBounds_toArray, List.set_cons_zero, List.set_cons_succ]
      refine wpAnyB_take (i := 3) (v := ?_) false rfl (by kernel_rfl) (by kernel_rfl) (by kernel_rfl) (by kernel_rfl) (by kernel_rfl) (fun _ _ _ h => h) (Or.inl ⟨by rfl, ?_⟩) hM (fun hM2 => ?_)
      rotate_left
      · (intro w hSw; replace hSw := hSw.1; (try dsimp only at hSw); go_simp; try with_reducible rfl)
      replace hM := hM2
      clear hM2
      try simp only [List.getElem_toArray, List.getElem_cons_succ, List.getElem_cons_zero, Act.put, List.setIfInBounds_toArray, List.set_cons_zero, List.set_cons_succ]
      refine wpAnyB_take (i := 4) (v := ?_) false rfl (by kernel_rfl) (by kernel_rfl) (by kernel_rfl) (by kernel_rfl) (by kernel_rfl) (fun _ _ _ h => h) (Or.inl ⟨by rfl, ?_⟩) hM (fun hM2 => ?_)
      rotate_left
      · (intro w hSw; replace hSw := hSw.1; (try dsimp only at hSw); go_simp; try with_reducible rfl)
      replace hM := hM2
      clear hM2
      try simp only [List.getElem_toArray, List.getElem_cons_succ, List.getElem_cons_zero, Act.put, List.setIfInBounds_toArray, List.set_cons_zero, List.set_cons_succ]
      refine wpAnyB_take (i := 5) (v := ?_) false rfl (by kernel_rfl) (by kernel_rfl) (by kernel_rfl) (by kernel_rfl) (by kernel_rfl) (fun _ _ _ h => h) (Or.inl ⟨by rfl, ?_⟩) hM (fun hM2 => ?_)
      rotate_left
      · (intro w hSw; replace hSw := hSw.1; (try dsimp only at hSw); go_simp; try with_reducible rfl)
      replace hM := hM2
      clear hM2
      try simp only [List.getElem_toArray, List.getElem_cons_succ, List.getElem_cons_zero, Act.put, List.setIfInBounds_toArray, List.set_cons_zero, List.set_cons_succ]
      refine wpAnyB_take (i := 6) (v := ?_) false rfl (by kernel_rfl) (by kernel_rfl) (by kernel_rfl) (by kernel_rfl) (by kernel_rfl) (fun _ _ _ h => h) (Or.inl ⟨by rfl, ?_⟩) hM (fun hM2 => ?_)
      rotate_left
      · (intro w hSw; replace hSw := hSw.1; (try dsimp only at hSw); go_simp; try with_reducible rfl)
      replace hM := hM2
      clear hM2
      try simp only [List.getElem_toArray, List.getElem_cons_succ, List.getElem_cons_zero, Act.put, List.setIfInBounds_toArray, List.set_cons_zero, List.set_cons_succ]
      refine wpAnyB_take (i := 7) (v := ?_) false rfl (by kernel_rfl) (by kernel_rfl) (by kernel_rfl) (by kernel_rfl) (by kernel_rfl) (fun _ _ _ h => h) (Or.inl ⟨by rfl, ?_⟩) hM (fun hM2 => ?_)
      rotate_left
      · (intro w hSw; replace hSw := hSw.1; (try dsimp only at hSw); go_simp; try with_reducible rfl)
      replace hM := hM2
      clear hM2
      try simp only [List.getElem_toArray, List.getElem_cons_succ, List.getElem_cons_zero, Act.put, List.setIfInBounds_toArray, List.set_cons_zero, List.set_cons_succ]
      refine wpAnyB_take (i := 8) (v := ?_) false rfl (by kernel_rfl) (by kernel_rfl) (by kernel_rfl) (by kernel_rfl) (by kernel_rfl) (fun _ _ _ h => h) (Or.inl ⟨by rfl, ?_⟩) hM (fun hM2 => ?_)
      rotate_left
      · (intro w hSw; replace hSw := hSw.1; (try dsimp only at hSw); go_simp; try with_reducible rfl)
      replace hM := hM2
      clear hM2
      try simp only [List.getElem_toArray, List.getElem_cons_succ, List.getElem_cons_zero, Act.put, List.setIfInBounds_toArray, List.set_cons_zero, List.set_cons_succ]
      refine wpAnyB_take (i := 9) (v := ?_) false rfl (by kernel_rfl) (by kernel_rfl) (by kernel_rfl) (by kernel_rfl) (by kernel_rfl) (fun _ _ _ h => h) (Or.inl ⟨by rfl, ?_⟩) hM (fun hM2 => ?_)
      rotate_left
      · (intro w hSw; replace hSw := hSw.1; (try dsimp only at hSw); go_simp; try with_reducible rfl)
      replace hM := hM2
      clear hM2
      try simp only [List.getElem_toArray, List.getElem_cons_succ, List.getElem_cons_zero, Act.put, List.setIfInBounds_toArray, List.set_cons_zero, List.set_cons_succ]
      refine wpAnyB_take (i := 10) (v := ?_) false rfl (by kernel_rfl) (by kernel_rfl) (by kernel_rfl) (by kernel_rfl) (by kernel_rfl) (fun _ _ _ h => h) (Or.inl ⟨by rfl, ?_⟩) hM (fun hM2 => ?_)
      rotate_left
      · (intro w hSw; replace hSw := hSw.1; (try dsimp only at hSw); go_simp; try with_reducible rfl)
      replace hM := hM2
      clear hM2
      try simp only [List.getElem_toArray, List.getElem_cons_succ, List.getElem_cons_zero, Act.put, List.setIfInBounds_toArray, List.set_cons_zero, List.set_cons_succ]
      refine wpAnyB_take (i := 11) (v := ?_) false rfl (by kernel_rfl) (by kernel_rfl) (by kernel_rfl) (by kernel_rfl) (by kernel_rfl) (fun _ _ _ h => h) (Or.inl ⟨by rfl, ?_⟩) hM (fun hM2 => ?_)
      rotate_left
      · (intro w hSw; replace hSw := hSw.1; (try dsimp only at hSw); go_simp; try with_reducible rfl)
      replace hM := hM2
      clear hM2
      try simp only [List.getElem_toArray, List.getElem_cons_succ, List.getElem_cons_zero, Act.put, List.setIfInBounds_toArray, List.set_cons_zero, List.set_cons_succ]
      refine wpAnyB_take (i := 12) (v := ?_) false rfl (by kernel_rfl) (by kernel_rfl) (by kernel_rfl) (by kernel_rfl) (by kernel_rfl) (fun _ _ _ h => h) (Or.inl ⟨by rfl, ?_⟩) hM (fun hM2 => ?_)
      rotate_left
      · (intro w hSw; replace hSw := hSw.1; (try dsimp only at hSw); go_simp; try with_reducible rfl)
      replace hM := hM2
      clear hM2
      try simp only [List.getElem_toArray, List.getElem_cons_succ, List.getElem_cons_zero, Act.put, List.setIfInBounds_toArray, List.set_cons_zero, List.set_cons_succ]
      refine wpAnyB_take (i := 13) (v := ?_) false rfl (by kernel_rfl) (by kernel_rfl) (by kernel_rfl) (by kernel_rfl) (by kernel_rfl) (fun _ _ _ h => h) (Or.inl ⟨by rfl, ?_⟩) hM (fun hM2 => ?_)
      rotate_left
      · (intro w hSw; replace hSw := hSw.1; (try dsimp only at hSw); go_simp; try with_reducible rfl)
      replace hM := hM2
      clear hM2
      try simp only [List.getElem_toArray, List.getElem_cons_succ, List.getElem_cons_zero, Act.put, List.setIfInBounds_toArray, List.set_cons_zero, List.set_cons_succ]
      refine wpAnyB_take (i := 14) (v := ?_) false rfl (by kernel_rfl) (by kernel_rfl) (by kernel_rfl) (by kernel_rfl) (by kernel_rfl) (fun _ _ _ h => h) (Or.inl ⟨by rfl, ?_⟩) hM (fun hM2 => ?_)
      rotate_left
      · (intro w hSw; replace hSw := hSw.1; (try dsimp only at hSw); go_simp; try with_reducible rfl)
      replace hM := hM2
      clear hM2
      try simp only [List.getElem_toArray, List.getElem_cons_succ, List.getElem_cons_zero, Act.put, List.setIfInBounds_toArray, List.set_cons_zero, List.set_cons_succ]
      refine wpAnyB_two (i := 1) (j := 15) (by kernel_rfl) rfl rfl (fun K hK => ?_) (fun K hK => ?_)
      · go_simp
        refine hK.out _ _ (meetB.both (hS' _ hA) trivial) (fun hM2 => ?_)
        clear hK K
        replace hM := hM2
        clear hM2
        try simp only [List.getElem_toArray, List.getElem_cons_succ, List.getElem_cons_zero, Act.put, List.setIfInBounds_toArray, List.set_cons_zero, List.set_cons_succ]
        refine wpAnyB_one (i := 15) (by kernel_rfl) rfl (fun K hK => ?_)
        (go_simp; go_at_call 87; refine (Hhih2.out _ (hA)).mono ?_; rintro e3 w3 ⟨a3, c3, xs3, rfl, hB4, hO4, hV4⟩; have hB5 : Below w2.heap.size w2 w3 := below_more (hA) hB4; dsimp only)
        refine hK.out _ _ (meetB.both (hS' _ hB5) trivial) (fun hM2 => ?_)
        clear hK K
        replace hM := hM2
        clear hM2
        try simp only [List.getElem_toArray, List.getElem_cons_succ, List.getElem_cons_zero, Act.put, List.setIfInBounds_toArray, List.set_cons_zero, List.set_cons_succ]
        refine wpAnyB_one (i := 16) (by kernel_rfl) rfl (fun K hK => ?_)
        (refine step_append_rows (by rfl) _ _ (by rfl) w2.heap.size _ [Value.slice (some ⟨g, 0, none⟩) 2 2] xs3 a3 c3 (by rfl) (((OwnV.one _ _).drew).below hB4) (by rfl) (hO4.cellsV) hV4.cells1 (hB5).size (by have := hV4.1; have := bestM_len es U2; simp; omega) ?_ (by simp); intro ao5 cap5 w5 hO5 hB6 hG6; have hB7 := (hB5).trans hB6)
        refine hK.out _ _ (meetB.both (hS' _ hB7) trivial) (fun hM2 => ?_)
        clear hK K
        replace hM := hM2
        clear hM2
        try simp only [List.getElem_toArray, List.getElem_cons_succ, List.getElem_cons_zero, Act.put, List.setIfInBounds_toArray, List.set_cons_zero, List.set_cons_succ]
        refine wpAnyB_take (i := 17) (v := ?_) false rfl (by kernel_rfl) (by kernel_rfl) (by kernel_rfl) (by kernel_rfl) (by kernel_rfl) (fun _ _ _ h => h) (Or.inl ⟨by rfl, ?_⟩) hM (fun hM2 => ?_)
        rotate_left
        · (intro w hSw; replace hSw := hSw.1; (try dsimp only at hSw); go_simp; try with_reducible rfl)
        replace hM := hM2
        clear hM2
        try simp only [List.getElem_toArray, List.getElem_cons_succ, List.getElem_cons_zero, Act.put, List.setIfInBounds_toArray, List.set_cons_zero, List.set_cons_succ]
        refine wpAnyB_done (by kernel_rfl) ?_ _
        have hV5 : ValsOf w5 (Value.slice (some ⟨g, 0, none⟩) 2 2 :: xs3) (e :: bestM es U2) := hG6 _ _ ((Hhv2.out.below (hB5)).cons (hV4))
        clear hG6 hM hS' hA
        have hO6 : OwnV w5 w.heap.size (.slice (some ao5) (Value.slice (some ⟨g, 0, none⟩) 2 2 :: xs3).length cap5) (Value.slice (some ⟨g, 0, none⟩) 2 2 :: xs3) := by
          have h := hO5.mono hs2
          have e : 1 + xs3.length = (Value.slice (some ⟨g, 0, none⟩) 2 2 :: xs3).length := by simp [Nat.add_comm]
          rw [← e]
          exact h
        have hE6 : Value.slice (some ao5) (1 + xs3.length) cap5 = .slice (some ao5) (Value.slice (some ⟨g, 0, none⟩) 2 2 :: xs3).length cap5 := by simp [Nat.add_comm]
        have hB9 := HhB2.out.trans (hB7.mono hs2)
        have hV9 := HhV2.out.below hB7
        have hO9 := HhO2.out.below hB7
        have hl5 := hV5.1
        simp only [List.length_cons] at hl5
        by_cases hcmp : (bestM es used).length ≤ (bestM es U2).length + 1
        · have d1 : decide ((xs2.length : Int) ≤ ((1 + xs3.length : Nat) : Int)) = true := decide_eq_true (by have := HV2.out; omega)
          have d2 : decide ((xs2.length : Int) ≤ 1 + (xs3.length : Int)) = true := decide_eq_true (by have := HV2.out; omega)
          clear hl5 hO5 hB7
          have HhO6 := Lib.hid hO6
          clear hO6
          have HhE6 := Lib.hid hE6
          clear hE6
          have HhB9 := Lib.hid hB9
          clear hB9
          have HhV9 := Lib.hid hV9
          clear hV9
          have HhO9 := Lib.hid hO9
          clear hO9
          have HhV5 := Lib.hid hV5
          clear hV5
          have Hhcmp := Lib.hid hcmp
          clear hcmp
          go_wp2_with fail
          go_ret
          exact ⟨ao5, cap5, Value.slice (some ⟨g, 0, none⟩) 2 2 :: xs3, congrArg Ending.returned HhE6.out, HhB9.out, HhO6.out, by rw [HT.out (HF.out _ _ hu1 hu2) Hhcmp.out]; exact HhV5.out⟩
        · have d1 : decide ((xs2.length : Int) ≤ ((1 + xs3.length : Nat) : Int)) = false := decide_eq_false (by have := HV2.out; omega)
          have d2 : decide ((xs2.length : Int) ≤ 1 + (xs3.length : Int)) = false := decide_eq_false (by have := HV2.out; omega)
          clear hl5 hO5 hB7
          have HhO6 := Lib.hid hO6
          clear hO6
          have HhE6 := Lib.hid hE6
          clear hE6
          have HhB9 := Lib.hid hB9
          clear hB9
          have HhV9 := Lib.hid hV9
          clear hV9
          have HhO9 := Lib.hid hO9
          clear hO9
          have HhV5 := Lib.hid hV5
          clear hV5
          have Hhcmp := Lib.hid hcmp
          clear hcmp
          go_wp2_with fail
          go_ret
          exact ⟨a2, c2, xs2, rfl, HhB9.out, HhO9.out, by rw [HL.out (HF.out _ _ hu1 hu2) Hhcmp.out]; exact HhV9.out⟩
      · (go_simp; go_at_call 87; refine (Hhih2.out _ ((Below.refl _ _).drew)).mono ?_; rintro e3 w3 ⟨a3, c3, xs3, rfl, hB4, hO4, hV4⟩; have hB5 : Below w2.heap.size w2 w3 := below_more ((Below.refl _ _).drew) hB4; dsimp only)
        refine hK.out _ _ (meetB.both (hS' _ hB5) trivial) (fun hM2 => ?_)
        clear hK K
        replace hM := hM2
        clear hM2
        try simp only [List.getElem_toArray, List.getElem_cons_succ, List.getElem_cons_zero, Act.put, List.setIfInBounds_toArray, List.set_cons_zero, List.set_cons_succ]
        have hB8 : Below w2.heap.size w2 (w3.alloc (.cells #[Value.slice (some ⟨g, 0, none⟩) 2 2] 24)) := hB5.alloc hB5.size _
        refine wpAnyB_one (i := 1) (by kernel_rfl) rfl (fun K hK => ?_)
        go_simp
        refine hK.out _ _ (meetB.both (hS' _ hB8) trivial) (fun hM2 => ?_)
        clear hK K
        replace hM := hM2
        clear hM2
        try simp only [List.getElem_toArray, List.getElem_cons_succ, List.getElem_cons_zero, Act.put, List.setIfInBounds_toArray, List.set_cons_zero, List.set_cons_succ]
        refine wpAnyB_one (i := 16) (by kernel_rfl) rfl (fun K hK => ?_)
        (refine step_append_rows (by rfl) _ _ (by rfl) w2.heap.size _ [Value.slice (some ⟨g, 0, none⟩) 2 2] xs3 a3 c3 (by rfl) ((OwnV.one _ _).mono hB5.size) (by rfl) ((hO4.alloc _).cellsV) hV4.cells1 (hB8).size (by have := hV4.1; have := bestM_len es U2; simp; omega) ?_ (by simp); intro ao5 cap5 w5 hO5 hB6 hG6; have hB7 := (hB8).trans hB6)
        refine hK.out _ _ (meetB.both (hS' _ hB7) trivial) (fun hM2 => ?_)
        clear hK K
        replace hM := hM2
        clear hM2
        try simp only [List.getElem_toArray, List.getElem_cons_succ, List.getElem_cons_zero, Act.put, List.setIfInBounds_toArray, List.set_cons_zero, List.set_cons_succ]
        refine wpAnyB_take (i := 17) (v := ?_) false rfl (by kernel_rfl) (by kernel_rfl) (by kernel_rfl) (by kernel_rfl) (by kernel_rfl) (fun _ _ _ h => h) (Or.inl ⟨by rfl, ?_⟩) hM (fun hM2 => ?_)
        rotate_left
        · (intro w hSw; replace hSw := hSw.1; (try dsimp only at hSw); go_simp; try with_reducible rfl)
        replace hM := hM2
        clear hM2
        try simp only [List.getElem_toArray, List.getElem_cons_succ, List.getElem_cons_zero, Act.put, List.setIfInBounds_toArray, List.set_cons_zero, List.set_cons_succ]
        refine wpAnyB_done (by kernel_rfl) ?_ _
        have hV5 : ValsOf w5 (Value.slice (some ⟨g, 0, none⟩) 2 2 :: xs3) (e :: bestM es U2) := hG6 _ _ ((Hhv2.out.below (hB8)).cons (hV4.below ((Below.refl _ _).alloc (Nat.le_refl _) _)))
        clear hG6 hM hS' hA
        have hO6 : OwnV w5 w.heap.size (.slice (some ao5) (Value.slice (some ⟨g, 0, none⟩) 2 2 :: xs3).length cap5) (Value.slice (some ⟨g, 0, none⟩) 2 2 :: xs3) := by
          have h := hO5.mono hs2
          have e : 1 + xs3.length = (Value.slice (some ⟨g, 0, none⟩) 2 2 :: xs3).length := by simp [Nat.add_comm]
          rw [← e]
          exact h
        have hE6 : Value.slice (some ao5) (1 + xs3.length) cap5 = .slice (some ao5) (Value.slice (some ⟨g, 0, none⟩) 2 2 :: xs3).length cap5 := by simp [Nat.add_comm]
        have hB9 := HhB2.out.trans (hB7.mono hs2)
        have hV9 := HhV2.out.below hB7
        have hO9 := HhO2.out.below hB7
        have hl5 := hV5.1
        simp only [List.length_cons] at hl5
        by_cases hcmp : (bestM es used).length ≤ (bestM es U2).length + 1
        · have d1 : decide ((xs2.length : Int) ≤ ((1 + xs3.length : Nat) : Int)) = true := decide_eq_true (by have := HV2.out; omega)
          have d2 : decide ((xs2.length : Int) ≤ 1 + (xs3.length : Int)) = true := decide_eq_true (by have := HV2.out; omega)
          clear hl5 hO5 hB7
          have HhO6 := Lib.hid hO6
          clear hO6
          have HhE6 := Lib.hid hE6
          clear hE6
          have HhB9 := Lib.hid hB9
          clear hB9
          have HhV9 := Lib.hid hV9
          clear hV9
          have HhO9 := Lib.hid hO9
          clear hO9
          have HhV5 := Lib.hid hV5
          clear hV5
          have Hhcmp := Lib.hid hcmp
          clear hcmp
          go_wp2_with fail
          go_ret
          exact ⟨ao5, cap5, Value.slice (some ⟨g, 0, none⟩) 2 2 :: xs3, congrArg Ending.returned HhE6.out, HhB9.out, HhO6.out, by rw [HT.out (HF.out _ _ hu1 hu2) Hhcmp.out]; exact HhV5.out⟩
        · have d1 : decide ((xs2.length : Int) ≤ ((1 + xs3.length : Nat) : Int)) = false := decide_eq_false (by have := HV2.out; omega)
          have d2 : decide ((xs2.length : Int) ≤ 1 + (xs3.length : Int)) = false := decide_eq_false (by have := HV2.out; omega)
          clear hl5 hO5 hB7
          have HhO6 := Lib.hid hO6
          clear hO6
          have HhE6 := Lib.hid hE6
          clear hE6
          have HhB9 := Lib.hid hB9
          clear hB9
          have HhV9 := Lib.hid hV9
          clear hV9
          have HhO9 := Lib.hid hO9
          clear hO9
          have HhV5 := Lib.hid hV5
          clear hV5
          have Hhcmp := Lib.hid hcmp
          clear hcmp
          go_wp2_with fail
          go_ret
          exact ⟨a2, c2, xs2, rfl, HhB9.out, HhO9.out, by rw [HL.out (HF.out _ _ hu1 hu2) Hhcmp.out]; exact HhV9.out⟩

theorem ValsOf.at {w : World} {xs : List Value} {es : List (Nat × Nat)} (h : ValsOf w xs es) {k : Nat} {e : Nat × Nat} (he : es[k]? = some e) : ∃ g, xs[k]? = some (.slice (some ⟨g, 0, none⟩) 2 2) ∧ g < w.heap.size ∧ w.cell? ⟨g, 0, none⟩ = some (.int .i64 e.1) ∧ w.cell? ⟨g, 1, none⟩ = some (.int .i64 e.2) ∧
    ∀ (w' : World) (ys : List Value) (ds : List (Nat × Nat)), Below w.heap.size w w' → ValsOf w' ys ds → ValsOf w' (Value.slice (some ⟨g, 0, none⟩) 2 2 :: ys) (e :: ds) := by
  obtain ⟨g, h1, h2⟩ := h.2 k e he
  have k0 : Blk w g #[.int .i64 e.1, .int .i64 e.2] 3 := h2
  have c0 := k0.cell 0
  have c1 := k0.cell 1
  simp at c0 c1
  refine ⟨g, h1, k0.lt, c0, c1, fun w' ys ds hB hy => ⟨by simp [hy.1], fun j d hj => ?_⟩⟩
  cases j with
  | zero =>
    simp only [List.getElem?_cons_zero, Option.some.injEq] at hj
    subst hj
    exact ⟨g, rfl, (hB.block g k0.lt).trans h2⟩
  | succ j => exact hy.2 j d (by simpa using hj)

set_option maxRecDepth 100000 in
set_option maxHeartbeats 16000000 in
theorem specMatch_any (es : List (Nat × Nat)) (xs : List Value) (ao : Option Addr) (n cap : Nat) (hn : n = es.length) (hes : ∀ e ∈ es, e.1 < 7 ∧ e.2 < 7) (hl : es.length ≤ 49) : ∀ (j k used : Nat) (w : World), k + j = es.length → CellsV w ao xs → ValsOf w xs es → used < 128 →
    Calls Try.prog 90 #[.slice ao n cap, .int .i64 k, .int .i64 used] w (RetM w (bestM (es.drop k) used)) := by
  intro j
  induction j with
  | zero =>
    intro k used w hk _ _ _
    have hkn : ((k : Int) == (n : Int)) = true := by rw [beq_iff_eq]; omega
    have HE : Hid (bestM (es.drop k) used = []) := Lib.hid (by rw [List.drop_of_length_le (by omega)]; rfl)
    clear hn hk
    go_enter Try.func90, Try.ntmps90
    go_wp2_with fail
    go_ret
    exact ⟨_, 0, [], rfl, (Below.refl _ _).alloc (Nat.le_refl _) _, OwnV.empty w, by rw [HE.out]; exact ValsOf.nil _⟩
  | succ j ih =>
    intro k used w hk hc hv hu
    have hkl : k < es.length := by omega
    have hkn : ((k : Int) == (n : Int)) = false := by rw [beq_eq_false_iff_ne]; omega
    have hk1 : k < n := by omega
    obtain ⟨g, hgx, hg, x0, x1, hput⟩ := hv.at (List.getElem?_eq_getElem hkl)
    obtain ⟨b, off, rfl, hb, hcb⟩ := hc (by rw [hv.1]; omega)
    have z0 := hcb k _ hgx
    obtain ⟨m1, m2⟩ := hes es[k] (List.getElem_mem hkl)
    have hdrop := List.drop_eq_getElem_cons hkl
    rw [hdrop]
    have hdl : (es.drop (k + 1)).length ≤ 48 := by rw [List.length_drop]; omega
    have hq : (k : Int) + 1 = ((k + 1 : Nat) : Int) := by omega
    have hih := fun (used : Nat) (w' : World) (h : Below w.heap.size w w') (hu : used < 128) => ih (k + 1) used w' (by omega) (hc.below h) (hv.below h) hu
    have hk49 : k ≤ 49 := by omega
    clear ih hc hv hcb hdrop hgx hn hk
    generalize es[k] = e at *
    clear hkl
    generalize es.drop (k + 1) = D at *
    have q1 := hasN_nat used e.1
    have q2 := hasN_nat used e.2
    have hU := useE_lt hu m1 m2
    have t1 : 2 ^ e.1 < 128 := Nat.pow_lt_pow_right (a := 2) (n := 7) (by decide) m1
    have t2 : 2 ^ e.2 < 128 := Nat.pow_lt_pow_right (a := 2) (n := 7) (by decide) m2
    have p1 : pwN e.1 = ((2 ^ e.1 : Nat) : Int) := pwN_small e.1 (by omega)
    have p2 : pwN e.2 = ((2 ^ e.2 : Nat) : Int) := pwN_small e.2 (by omega)
    have t3 : used ||| 2 ^ e.1 < 128 := Nat.or_lt_two_pow (n := 7) hu t1
    have u1 : bits .or .i64 (used : Int) ((2 ^ e.1 : Nat) : Int) = ((used ||| 2 ^ e.1 : Nat) : Int) := bits_or_nat _ _ (by omega) (by omega)
    have u2 : bits .or .i64 ((used ||| 2 ^ e.1 : Nat) : Int) ((2 ^ e.2 : Nat) : Int) = ((useE used e : Nat) : Int) := bits_or_nat _ _ (by omega) (by omega)
    have HH := Lib.hid (fun h => bestM_hit (e := e) (t := D) (used := used) h)
    have HT := Lib.hid (fun h1 h2 => bestM_take (e := e) (t := D) (used := used) h1 h2)
    have HL := Lib.hid (fun h1 h2 => bestM_leave (e := e) (t := D) (used := used) h1 h2)
    have HF : Hid (∀ b1 b2, used.testBit e.1 = b1 → used.testBit e.2 = b2 → hitE used e = (b1 || b2)) := Lib.hid fun b1 b2 h1 h2 => by unfold hitE; rw [h1, h2]
    generalize useE used e = U2 at *
    generalize used ||| 2 ^ e.1 = U1 at *
    generalize 2 ^ e.1 = Ta at *
    generalize 2 ^ e.2 = Tc at *
    go_enter Try.func90, Try.ntmps90
    go_upto_region 4 with fail
    generalize hW : World.alloc _ _ = W1
    obtain ⟨hB1, hsz, -⟩ := alloc1 hW
    have hO1 : OwnV W1 w.heap.size (.slice (some ⟨w.heap.size, 0, none⟩) 0 0) [] := by rw [← hW]; exact OwnV.empty w
    have hs1 := hB1.size
    replace x0 : W1.cell? ⟨g, 0, none⟩ = _ := (hB1.cell (p := ⟨g, 0, none⟩) hg).trans x0
    replace x1 : W1.cell? ⟨g, 1, none⟩ = _ := (hB1.cell (p := ⟨g, 1, none⟩) hg).trans x1
    replace z0 : W1.cell? ⟨b, off + k, none⟩ = _ := (hB1.cell (p := ⟨b, off + k, none⟩) hb).trans z0
    have hg1 : g < W1.heap.size := Nat.lt_of_lt_of_le hg hs1
    have hb1 : b < W1.heap.size := Nat.lt_of_lt_of_le hb hs1
    have hih1 : ∀ w', Below W1.heap.size W1 w' → Calls Try.prog 90 #[.slice (some ⟨b, off, none⟩) n cap, .int .i64 (k + 1 : Nat), .int .i64 used] w' (RetM w' (bestM D used)) := fun w' h => hih used w' (hB1.trans (h.mono hs1)) hu
    have hih2 : ∀ w', Below W1.heap.size W1 w' → Calls Try.prog 90 #[.slice (some ⟨b, off, none⟩) n cap, .int .i64 (k + 1 : Nat), .int .i64 U2] w' (RetM w' (bestM D U2)) := fun w' h => hih U2 w' (hB1.trans (h.mono hs1)) hU
    rw [← hq] at hih1 hih2
    have HPUT : Hid (∀ (w' : World) (ys : List Value) (ds : List (Nat × Nat)), Below W1.heap.size W1 w' → ValsOf w' ys ds → ValsOf w' (Value.slice (some ⟨g, 0, none⟩) 2 2 :: ys) (e :: ds)) := Lib.hid fun w' ys ds h => hput w' ys ds (hB1.trans (h.mono hs1))
    replace hO1 := hO1.mono (base' := w.heap.size) (Nat.le_refl _)
    clear hW hsz hih hput hg hb hq hU
    have HhB1 := Lib.hid hB1
    clear hB1
    have HhO1 := Lib.hid hO1
    clear hO1
    have Hhih1 := Lib.hid hih1
    clear hih1
    have Hhih2 := Lib.hid hih2
    clear hih2
    cases hu1 : used.testBit e.1
    rotate_left
    · rw [hu1] at q1
      go_wp2_with fail
      refine (Hhih1.out _ (Below.refl _ _)).mono ?_
      rintro e6 w6 ⟨a6, c6, xs6, rfl, hB10, hO10, hV10⟩
      have hB9 := HhB1.out.trans (hB10.mono hs1)
      have hO11 := hO10.mono hs1
      have hO9 := HhO1.out.below hB10
      have hl6 := hV10.1
      by_cases h0 : 0 < xs6.length
      · have d1 : decide ((0 : Int) < (xs6.length : Int)) = true := decide_eq_true (by omega)
        clear hl6 hB10 hO10
        have HhB9 := Lib.hid hB9
        clear hB9
        have HhO9 := Lib.hid hO9
        clear hO9
        have HhV10 := Lib.hid hV10
        clear hV10
        have HhO11 := Lib.hid hO11
        clear hO11
        go_wp2_with fail
        go_ret
        exact ⟨a6, c6, xs6, rfl, HhB9.out, HhO11.out, by rw [HH.out (HF.out _ _ hu1 rfl)]; exact HhV10.out⟩
      · have d1 : decide ((0 : Int) < (xs6.length : Int)) = false := decide_eq_false (by omega)
        have hnil : bestM D used = [] := List.length_eq_zero_iff.1 (by omega)
        clear hl6 hB10 hO10
        have HhB9 := Lib.hid hB9
        clear hB9
        have HhO9 := Lib.hid hO9
        clear hO9
        have HhV10 := Lib.hid hV10
        clear hV10
        have HhO11 := Lib.hid hO11
        clear hO11
        have Hhnil := Lib.hid hnil
        clear hnil
        go_wp2_with fail
        go_ret
        exact ⟨_, _, [], rfl, HhB9.out, HhO9.out, by rw [HH.out (HF.out _ _ hu1 rfl), Hhnil.out]; exact ValsOf.nil _⟩
    rw [hu1] at q1
    cases hu2 : used.testBit e.2
    rotate_left
    · rw [hu2] at q2
      go_wp2_with fail
      refine (Hhih1.out _ (Below.refl _ _)).mono ?_
      rintro e6 w6 ⟨a6, c6, xs6, rfl, hB10, hO10, hV10⟩
      have hB9 := HhB1.out.trans (hB10.mono hs1)
      have hO11 := hO10.mono hs1
      have hO9 := HhO1.out.below hB10
      have hl6 := hV10.1
      by_cases h0 : 0 < xs6.length
      · have d1 : decide ((0 : Int) < (xs6.length : Int)) = true := decide_eq_true (by omega)
        clear hl6 hB10 hO10
        have HhB9 := Lib.hid hB9
        clear hB9
        have HhO9 := Lib.hid hO9
        clear hO9
        have HhV10 := Lib.hid hV10
        clear hV10
        have HhO11 := Lib.hid hO11
        clear hO11
        go_wp2_with fail
        go_ret
        exact ⟨a6, c6, xs6, rfl, HhB9.out, HhO11.out, by rw [HH.out (HF.out _ _ hu1 hu2)]; exact HhV10.out⟩
      · have d1 : decide ((0 : Int) < (xs6.length : Int)) = false := decide_eq_false (by omega)
        have hnil : bestM D used = [] := List.length_eq_zero_iff.1 (by omega)
        clear hl6 hB10 hO10
        have HhB9 := Lib.hid hB9
        clear hB9
        have HhO9 := Lib.hid hO9
        clear hO9
        have HhV10 := Lib.hid hV10
        clear hV10
        have HhO11 := Lib.hid hO11
        clear hO11
        have Hhnil := Lib.hid hnil
        clear hnil
        go_wp2_with fail
        go_ret
        exact ⟨_, _, [], rfl, HhB9.out, HhO9.out, by rw [HH.out (HF.out _ _ hu1 hu2), Hhnil.out]; exact ValsOf.nil _⟩
    · rw [hu2] at q2
      go_wp2_with fail
      have hS' : ∀ w', Below W1.heap.size W1 w' → Below W1.heap.size W1 w' ∧ w'.cell? ⟨b, off + k, none⟩ = some (Value.slice (some ⟨g, 0, none⟩) 2 2) ∧ w'.cell? ⟨g, 0, none⟩ = some (.int .i64 e.1) ∧ w'.cell? ⟨g, 1, none⟩ = some (.int .i64 e.2) := fun w' h => ⟨h, (h.cell hb1).trans z0, (h.cell hg1).trans x0, (h.cell hg1).trans x1⟩
      clear x0 x1 z0 q1 q2
      have hwr : IntKind.i64.wrap ((k : Int) + 1) = (k : Int) + 1 := IntKind_i64_in _ (by omega) (by omega)
      have hA : Below W1.heap.size W1 (W1.alloc (.cells #[Value.slice (some ⟨g, 0, none⟩) 2 2] 24)).drew := ((Below.refl _ _).alloc (Nat.le_refl _) _).drew
      refine wp_region_B (fun w' => Below W1.heap.size W1 w' ∧ w'.cell? ⟨b, off + k, none⟩ = some (Value.slice (some ⟨g, 0, none⟩) 2 2) ∧ w'.cell? ⟨g, 0, none⟩ = some (.int .i64 e.1) ∧ w'.cell? ⟨g, 1, none⟩ = some (.int .i64 e.2)) (fun _ => True) [] (by kernel_rfl) (hS' _ (Below.refl _ _).drew) (trivial) (fun hM => ?_)
      refine wpAnyB_take (i := 0) (v := ?_) false rfl (by kernel_rfl) (by kernel_rfl) (by kernel_rfl) (by kernel_rfl) (by kernel_rfl) (fun _ _ _ h => h) (Or.inl ⟨by rfl, ?_⟩) hM (fun hM2 => ?_)
      rotate_left
      · (intro w hSw; replace hSw := hSw.1; (try dsimp only at hSw); go_simp; try with_reducible rfl)
      replace hM := hM2
      clear hM2
      try simp only [List.getElem_toArray, List.getElem_cons_zero, Act.put, List.setIfInBounds_toArray, List.set_cons_zero, List.set_cons_succ]
      refine wpAnyB_take (i := 1) (v := ?_) false rfl (by kernel_rfl) (by kernel_rfl) (by kernel_rfl) (by kernel_rfl) (by kernel_rfl) (fun _ _ _ h => h) (Or.inl ⟨by rfl, ?_⟩) hM (fun hM2 => ?_)
      rotate_left
      · (intro w hSw; replace hSw := hSw.1; (try dsimp only at hSw); go_simp; try with_reducible rfl)
      replace hM := hM2
      clear hM2
      try simp only [List.getElem_toArray, List.getElem_cons_succ, List.getElem_cons_zero, Act.put, List.setIfInBounds_toArray, List.set_cons_zero, List.set_cons_succ]
      refine wpAnyB_take (i := 2) (v := ?_) false rfl (by kernel_rfl) (by kernel_rfl) (by kernel_rfl) (by kernel_rfl) (by kernel_rfl) (fun _ _ _ h => h) (Or.inl ⟨by rfl, ?_⟩) hM (fun hM2 => ?_)
      rotate_left
      · (intro w hSw; replace hSw := hSw.1; (try dsimp only at hSw); go_simp; try with_reducible rfl)
      replace hM := hM2
      clear hM2
      try simp only [List.getElem_toArray, List.getElem_cons_succ, List.getElem_cons_zero, Act.put, List.setIfInBounds_toArray, List.set_cons_zero, List.set_cons_succ]
      refine wpAnyB_take (i := 3) (v := ?_) false rfl (by kernel_rfl) (by kernel_rfl) (by kernel_rfl) (by kernel_rfl) (by kernel_rfl) (fun _ _ _ h => h) (Or.inl ⟨by rfl, ?_⟩) hM (fun hM2 => ?_)
      rotate_left
      · (intro w hSw; replace hSw := hSw.1; (try dsimp only at hSw); go_simp; try with_reducible rfl)
      replace hM := hM2
      clear hM2
      try simp only [List.getElem_toArray, List.getElem_cons_succ, List.getElem_cons_zero, Act.put, List.setIfInBounds_toArray, List.set_cons_zero, List.set_cons_succ]
      refine wpAnyB_take (i := 5) (v := ?_) false rfl (by kernel_rfl) (by kernel_rfl) (by kernel_rfl) (by kernel_rfl) (by kernel_rfl) (fun _ _ _ h => h) (Or.inl ⟨by rfl, ?_⟩) hM (fun hM2 => ?_)
      rotate_left
      · (intro w hSw; replace hSw := hSw.1; (try dsimp only at hSw); go_simp; try with_reducible rfl)
      replace hM := hM2
      clear hM2
      try simp only [List.getElem_toArray, List.getElem_cons_succ, List.getElem_cons_zero, Act.put, List.setIfInBounds_toArray, List.set_cons_zero, List.set_cons_succ]
      refine wpAnyB_take (i := 6) (v := ?_) false rfl (by kernel_rfl) (by kernel_rfl) (by kernel_rfl) (by kernel_rfl) (by kernel_rfl) (fun _ _ _ h => h) (Or.inl ⟨by rfl, ?_⟩) hM (fun hM2 => ?_)
      rotate_left
      · (intro w hSw; replace hSw := hSw.1; (try dsimp only at hSw); go_simp; try with_reducible rfl)
      replace hM := hM2
      clear hM2
      try simp only [List.getElem_toArray, List.getElem_cons_succ, List.getElem_cons_zero, Act.put, List.setIfInBounds_toArray, List.set_cons_zero, List.set_cons_succ]
      refine wpAnyB_take (i := 7) (v := ?_) false rfl (by kernel_rfl) (by kernel_rfl) (by kernel_rfl) (by kernel_rfl) (by kernel_rfl) (fun _ _ _ h => h) (Or.inl ⟨by rfl, ?_⟩) hM (fun hM2 => ?_)
      rotate_left
      · (intro w hSw; replace hSw := hSw.1; (try dsimp only at hSw); go_simp; try with_reducible rfl)
      replace hM := hM2
      clear hM2
      try simp only [List.getElem_toArray, List.getElem_cons_succ, List.getElem_cons_zero, Act.put, List.setIfInBounds_toArray, List.set_cons_zero, List.set_cons_succ]
      refine wpAnyB_take (i := 8) (v := ?_) false rfl (by kernel_rfl) (by kernel_rfl) (by kernel_rfl) (by kernel_rfl) (by kernel_rfl) (fun _ _ _ h => h) (Or.inl ⟨by rfl, ?_⟩) hM (fun hM2 => ?_)
      rotate_left
      · (intro w hSw; replace hSw := hSw.1; (try dsimp only at hSw); go_simp; try with_reducible rfl)
      replace hM := hM2
      clear hM2
      try simp only [List.getElem_toArray, List.getElem_cons_succ, List.getElem_cons_zero, Act.put, List.setIfInBounds_toArray, List.set_cons_zero, List.set_cons_succ]
      refine wpAnyB_take (i := 9) (v := ?_) false rfl (by kernel_rfl) (by kernel_rfl) (by kernel_rfl) (by kernel_rfl) (by kernel_rfl) (fun _ _ _ h => h) (Or.inl ⟨by rfl, ?_⟩) hM (fun hM2 => ?_)
      rotate_left
      · (intro w hSw; replace hSw := hSw.1; (try dsimp only at hSw); go_simp; try with_reducible rfl)
      replace hM := hM2
      clear hM2
      try simp only [List.getElem_toArray, List.getElem_cons_succ, List.getElem_cons_zero, Act.put, List.setIfInBounds_toArray, List.set_cons_zero, List.set_cons_succ]
      refine wpAnyB_take (i := 10) (v := ?_) false rfl (by kernel_rfl) (by kernel_rfl) (by kernel_rfl) (by kernel_rfl) (by kernel_rfl) (fun _ _ _ h => h) (Or.inl ⟨by rfl, ?_⟩) hM (fun hM2 => ?_)
      rotate_left
      · (intro w hSw; replace hSw := hSw.1; (try dsimp only at hSw); go_simp; try with_reducible rfl)
      replace hM := hM2
      clear hM2
      try simp only [List.getElem_toArray, List.getElem_cons_succ, List.getElem_cons_zero, Act.put, List.setIfInBounds_toArray, List.set_cons_zero, List.set_cons_succ]
      refine wpAnyB_take (i := 11) (v := ?_) false rfl (by kernel_rfl) (by kernel_rfl) (by kernel_rfl) (by kernel_rfl) (by kernel_rfl) (fun _ _ _ h => h) (Or.inl ⟨by rfl, ?_⟩) hM (fun hM2 => ?_)
      rotate_left
      · (intro w hSw; replace hSw := hSw.1; (try dsimp only at hSw); go_simp; try with_reducible rfl)
      replace hM := hM2
      clear hM2
      try simp only [List.getElem_toArray, List.getElem_cons_succ, List.getElem_cons_zero, Act.put, List.setIfInBounds_toArray, List.set_cons_zero, List.set_cons_succ]
      refine wpAnyB_take (i := 12) (v := ?_) false rfl (by kernel_rfl) (by kernel_rfl) (by kernel_rfl) (by kernel_rfl) (by kernel_rfl) (fun _ _ _ h => h) (Or.inl ⟨by rfl, ?_⟩) hM (fun hM2 => ?_)
      rotate_left
      · (intro w hSw; replace hSw := hSw.1; (try dsimp only at hSw); go_simp; try with_reducible rfl)
      replace hM := hM2
      clear hM2
      try simp only [List.getElem_toArray, List.getElem_cons_succ, List.getElem_cons_zero, Act.put, List.setIfInBounds_toArray, List.set_cons_zero, List.set_cons_succ]
      refine wpAnyB_take (i := 13) (v := ?_) false rfl (by kernel_rfl) (by kernel_rfl) (by kernel_rfl) (by kernel_rfl) (by kernel_rfl) (fun _ _ _ h => h) (Or.inl ⟨by rfl, ?_⟩) hM (fun hM2 => ?_)
      rotate_left
      · (intro w hSw; replace hSw := hSw.1; (try dsimp only at hSw); go_simp; try with_reducible rfl)
      replace hM := hM2
      clear hM2
      try simp only [List.getElem_toArray, List.getElem_cons_succ, List.getElem_cons_zero, Act.put, List.setIfInBounds_toArray, List.set_cons_zero, List.set_cons_succ]
      refine wpAnyB_take (i := 14) (v := ?_) false rfl (by kernel_rfl) (by kernel_rfl) (by kernel_rfl) (by kernel_rfl) (by kernel_rfl) (fun _ _ _ h => h) (Or.inl ⟨by rfl, ?_⟩) hM (fun hM2 => ?_)
      rotate_left
      · (intro w hSw; replace hSw := hSw.1; (try dsimp only at hSw); go_simp; try with_reducible rfl)
      replace hM := hM2
      clear hM2
      try simp only [List.getElem_toArray, List.getElem_cons_succ, List.getElem_cons_zero, Act.put, List.setIfInBounds_toArray, List.set_cons_zero, List.set_cons_succ]
      refine wpAnyB_take (i := 15) (v := ?_) false rfl (by kernel_rfl) (by kernel_rfl) (by kernel_rfl) (by kernel_rfl) (by kernel_rfl) (fun _ _ _ h => h) (Or.inl ⟨by rfl, ?_⟩) hM (fun hM2 => ?_)
      rotate_left
      · (intro w hSw; replace hSw := hSw.1; (try dsimp only at hSw); go_simp; try with_reducible rfl)
      replace hM := hM2
      clear hM2
      try simp only [List.getElem_toArray, List.getElem_cons_succ, List.getElem_cons_zero, Act.put, List.setIfInBounds_toArray, List.set_cons_zero, List.set_cons_succ]
      refine wpAnyB_take (i := 16) (v := ?_) false rfl (by kernel_rfl) (by kernel_rfl) (by kernel_rfl) (by kernel_rfl) (by kernel_rfl) (fun _ _ _ h => h) (Or.inl ⟨by rfl, ?_⟩) hM (fun hM2 => ?_)
      rotate_left
      · (intro w hSw; replace hSw := hSw.1; (try dsimp only at hSw); go_simp; try with_reducible rfl)
      replace hM := hM2
      clear hM2
      try simp only [List.getElem_toArray, List.getElem_cons_succ, List.getElem_cons_zero, Act.put, List.setIfInBounds_toArray, List.set_cons_zero, List.set_cons_succ]
      refine wpAnyB_take (i := 17) (v := ?_) false rfl (by kernel_rfl) (by kernel_rfl) (by kernel_rfl) (by kernel_rfl) (by kernel_rfl) (fun _ _ _ h => h) (Or.inl ⟨by rfl, ?_⟩) hM (fun hM2 => ?_)
      rotate_left
      · (intro w hSw; replace hSw := hSw.1; (try dsimp only at hSw); go_simp; try with_reducible rfl)
      replace hM := hM2
      clear hM2
      try simp only [List.getElem_toArray, List.getElem_cons_succ, List.getElem_cons_zero, Act.put, List.setIfInBounds_toArray, List.set_cons_zero, List.set_cons_succ]
      refine wpAnyB_take (i := 18) (v := ?_) false rfl (by kernel_rfl) (by kernel_rfl) (by kernel_rfl) (by kernel_rfl) (by kernel_rfl) (fun _ _ _ h => h) (Or.inl ⟨by rfl, ?_⟩) hM (fun hM2 => ?_)
      rotate_left
      · (intro w hSw; replace hSw := hSw.1; (try dsimp only at hSw); go_simp; try with_reducible rfl)
      replace hM := hM2
      clear hM2
      try simp only [List.getElem_toArray, List.getElem_cons_succ, List.getElem_cons_zero, Act.put, List.setIfInBounds_toArray, List.set_cons_zero, List.set_cons_succ]
      refine wpAnyB_take (i := 19) (v := ?_) false rfl (by kernel_rfl) (by kernel_rfl) (by kernel_rfl) (by kernel_rfl) (by kernel_rfl) (fun _ _ _ h => h) (Or.inl ⟨by rfl, ?_⟩) hM (fun hM2 => ?_)
      rotate_left
      · (intro w hSw; replace hSw := hSw.1; (try dsimp only at hSw); go_simp; try with_reducible rfl)
      replace hM := hM2
      clear hM2
      try simp only [List.getElem_toArray, List.getElem_cons_succ, List.getElem_cons_zero, Act.put, List.setIfInBounds_toArray, List.set_cons_zero, List.set_cons_succ]
      refine wpAnyB_take (i := 20) (v := ?_) false rfl (by kernel_rfl) (by kernel_rfl) (by kernel_rfl) (by kernel_rfl) (by kernel_rfl) (fun _ _ _ h => h) (Or.inl ⟨by rfl, ?_⟩) hM (fun hM2 => ?_)
      rotate_left
      · (intro w hSw; replace hSw := hSw.1; (try dsimp only at hSw); go_simp; try with_reducible rfl)
      replace hM := hM2
      clear hM2
      try simp only [List.getElem_toArray, List.getElem_cons_succ, List.getElem_cons_zero, Act.put, List.setIfInBounds_toArray, List.set_cons_zero, List.set_cons_succ]
      refine wpAnyB_take (i := 21) (v := ?_) false rfl (by kernel_rfl) (by kernel_rfl) (by kernel_rfl) (by kernel_rfl) (by kernel_rfl) (fun _ _ _ h => h) (Or.inl ⟨by rfl, ?_⟩) hM (fun hM2 => ?_)
      rotate_left
      · (intro w hSw; replace hSw := hSw.1; (try dsimp only at hSw); go_simp; try with_reducible rfl)
      replace hM := hM2
      clear hM2
      try simp only [List.getElem_toArray, List.getElem_cons_succ, List.getElem_cons_zero, Act.put, List.setIfInBounds_toArray, List.set_cons_zero, List.set_cons_succ]
      refine wpAnyB_take (i := 22) (v := ?_) false rfl (by kernel_rfl) (by kernel_rfl) (by kernel_rfl) (by kernel_rfl) (by kernel_rfl) (fun _ _ _ h => h) (Or.inl ⟨by rfl, ?_⟩) hM (fun hM2 => ?_)
      rotate_left
      · (intro w hSw; replace hSw := hSw.1; (try dsimp only at hSw); go_simp; try with_reducible rfl)
      replace hM := hM2
      clear hM2
      try simp only [List.getElem_toArray, List.getElem_cons_succ, List.getElem_cons_zero, Act.put, List.setIfInBounds_toArray, List.set_cons_zero, List.set_cons_succ]
      refine wpAnyB_take (i := 23) (v := ?_) false rfl (by kernel_rfl) (by kernel_rfl) (by kernel_rfl) (by kernel_rfl) (by kernel_rfl) (fun _ _ _ h => h) (Or.inl ⟨by rfl, ?_⟩) hM (fun hM2 => ?_)
      rotate_left
      · (intro w hSw; replace hSw := hSw.1; (try dsimp only at hSw); go_simp; try with_reducible rfl)
      replace hM := hM2
      clear hM2
      try simp only [List.getElem_toArray, List.getElem_cons_succ, List.getElem_cons_zero, Act.put, List.setIfInBounds_toArray, List.set_cons_zero, List.set_cons_succ]
      refine wpAnyB_take (i := 24) (v := ?_) false rfl (by kernel_rfl) (by kernel_rfl) (by kernel_rfl) (by kernel_rfl) (by kernel_rfl) (fun _ _ _ h => h) (Or.inl ⟨by rfl, ?_⟩) hM (fun hM2 => ?_)
      rotate_left
      · (intro w hSw; replace hSw := hSw.1; (try dsimp only at hSw); go_simp; try with_reducible rfl)
      replace hM := hM2
      clear hM2
      try simp only [List.getElem_toArray, List.getElem_cons_succ, List.getElem_cons_zero, Act.put, List.setIfInBounds_toArray, List.set_cons_zero, List.set_cons_succ]
      refine wpAnyB_two (i := 4) (j := 25) (by kernel_rfl) rfl rfl (fun K hK => ?_) (fun K hK => ?_)
      · go_simp
        refine hK.out _ _ (meetB.both (hS' _ hA) trivial) (fun hM2 => ?_)
        clear hK K
        replace hM := hM2
        clear hM2
        try simp only [List.getElem_toArray, List.getElem_cons_succ, List.getElem_cons_zero, Act.put, List.setIfInBounds_toArray, List.set_cons_zero, List.set_cons_succ]
        refine wpAnyB_one (i := 25) (by kernel_rfl) rfl (fun K hK => ?_)
        (go_simp; go_at_call 90; (with_reducible refine (Hhih2.out _ (hA)).mono ?_); rintro e3 w3 ⟨a3, c3, xs3, rfl, hB4, hO4, hV4⟩; have hB5 : Below W1.heap.size W1 w3 := below_more (hA) hB4; dsimp only)
        refine hK.out _ _ (meetB.both (hS' _ hB5) trivial) (fun hM2 => ?_)
        clear hK K
        replace hM := hM2
        clear hM2
        try simp only [List.getElem_toArray, List.getElem_cons_succ, List.getElem_cons_zero, Act.put, List.setIfInBounds_toArray, List.set_cons_zero, List.set_cons_succ]
        refine wpAnyB_one (i := 26) (by kernel_rfl) rfl (fun K hK => ?_)
        (refine step_append_rows (by rfl) _ _ (by rfl) W1.heap.size _ [Value.slice (some ⟨g, 0, none⟩) 2 2] xs3 a3 c3 (by rfl) (((OwnV.one _ _).drew).below hB4) (by rfl) (hO4.cellsV) hV4.cells1 (hB5).size (by have := hV4.1; have := bestM_len D U2; simp; omega) ?_ (by simp); intro ao5 cap5 w5 hO5 hB6 hG6; have hB7 := (hB5).trans hB6)
        refine hK.out _ _ (meetB.both (hS' _ hB7) trivial) (fun hM2 => ?_)
        clear hK K
        replace hM := hM2
        clear hM2
        try simp only [List.getElem_toArray, List.getElem_cons_succ, List.getElem_cons_zero, Act.put, List.setIfInBounds_toArray, List.set_cons_zero, List.set_cons_succ]
        refine wpAnyB_take (i := 27) (v := ?_) false rfl (by kernel_rfl) (by kernel_rfl) (by kernel_rfl) (by kernel_rfl) (by kernel_rfl) (fun _ _ _ h => h) (Or.inl ⟨by rfl, ?_⟩) hM (fun hM2 => ?_)
        rotate_left
        · (intro w hSw; replace hSw := hSw.1; (try dsimp only at hSw); go_simp; try with_reducible rfl)
        replace hM := hM2
        clear hM2
        try simp only [List.getElem_toArray, List.getElem_cons_succ, List.getElem_cons_zero, Act.put, List.setIfInBounds_toArray, List.set_cons_zero, List.set_cons_succ]
        refine wpAnyB_done (by kernel_rfl) ?_ _
        have hV5 : ValsOf w5 (Value.slice (some ⟨g, 0, none⟩) 2 2 :: xs3) (e :: bestM D U2) := hG6 _ _ (HPUT.out _ _ _ (hB5) (hV4))
        clear hG6 hM hS' hA
        have hO6 : OwnV w5 W1.heap.size (.slice (some ao5) (Value.slice (some ⟨g, 0, none⟩) 2 2 :: xs3).length cap5) (Value.slice (some ⟨g, 0, none⟩) 2 2 :: xs3) := by
          have e : 1 + xs3.length = (Value.slice (some ⟨g, 0, none⟩) 2 2 :: xs3).length := by simp [Nat.add_comm]
          rw [← e]
          exact hO5
        have hE6 : Value.slice (some ao5) (1 + xs3.length) cap5 = .slice (some ao5) (Value.slice (some ⟨g, 0, none⟩) 2 2 :: xs3).length cap5 := by simp [Nat.add_comm]
        have hl5 := hV5.1
        simp only [List.length_cons] at hl5
        have hs5 := hB7.size
        have HhO6 := Lib.hid hO6
        clear hO6
        have HhE6 := Lib.hid hE6
        clear hE6
        have HhV5 := Lib.hid hV5
        clear hV5
        have HhB7 := Lib.hid hB7
        clear hB7
        have Hhl5 := Lib.hid hl5
        clear hl5
        clear hO5
        go_wp2_with fail
        refine (Hhih1.out _ HhB7.out).mono ?_
        rintro e6 w6 ⟨a6, c6, xs6, rfl, hB10, hO10, hV10⟩
        have hB9 := HhB1.out.trans ((HhB7.out.trans (hB10.mono hs5)).mono hs1)
        have hV9 := HhV5.out.below hB10
        have hO9 := (HhO6.out.below hB10).mono hs1
        have hO11 := hO10.mono (Nat.le_trans hs1 hs5)
        have hl6 := hV10.1
        by_cases hcmp : (bestM D used).length ≤ (bestM D U2).length + 1
        · have d1 : decide (((1 + xs3.length : Nat) : Int) < (xs6.length : Int)) = false := decide_eq_false (by have := Hhl5.out; omega)
          have d2 : decide (1 + (xs3.length : Int) < (xs6.length : Int)) = false := decide_eq_false (by have := Hhl5.out; omega)
          clear hl6 hB10 hO10
          have HhB9 := Lib.hid hB9
          clear hB9
          have HhV9 := Lib.hid hV9
          clear hV9
          have HhO9 := Lib.hid hO9
          clear hO9
          have HhV10 := Lib.hid hV10
          clear hV10
          have HhO11 := Lib.hid hO11
          clear hO11
          have Hhcmp := Lib.hid hcmp
          clear hcmp
          go_wp2_with fail
          go_ret
          exact ⟨ao5, cap5, Value.slice (some ⟨g, 0, none⟩) 2 2 :: xs3, congrArg Ending.returned HhE6.out, HhB9.out, HhO9.out, by rw [HT.out (HF.out _ _ hu1 hu2) Hhcmp.out]; exact HhV9.out⟩
        · have d1 : decide (((1 + xs3.length : Nat) : Int) < (xs6.length : Int)) = true := decide_eq_true (by have := Hhl5.out; omega)
          have d2 : decide (1 + (xs3.length : Int) < (xs6.length : Int)) = true := decide_eq_true (by have := Hhl5.out; omega)
          clear hl6 hB10 hO10
          have HhB9 := Lib.hid hB9
          clear hB9
          have HhV9 := Lib.hid hV9
          clear hV9
          have HhO9 := Lib.hid hO9
          clear hO9
          have HhV10 := Lib.hid hV10
          clear hV10
          have HhO11 := Lib.hid hO11
          clear hO11
          have Hhcmp := Lib.hid hcmp
          clear hcmp
          go_wp2_with fail
          go_ret
          exact ⟨a6, c6, xs6, rfl, HhB9.out, HhO11.out, by rw [HL.out (HF.out _ _ hu1 hu2) Hhcmp.out]; exact HhV10.out⟩
      · (go_simp; go_at_call 90; (with_reducible refine (Hhih2.out _ ((Below.refl _ _).drew)).mono ?_); rintro e3 w3 ⟨a3, c3, xs3, rfl, hB4, hO4, hV4⟩; have hB5 : Below W1.heap.size W1 w3 := below_more ((Below.refl _ _).drew) hB4; dsimp only)
        refine hK.out _ _ (meetB.both (hS' _ hB5) trivial) (fun hM2 => ?_)
        clear hK K
        replace hM := hM2
        clear hM2
        try simp only [List.getElem_toArray, List.getElem_cons_succ, List.getElem_cons_zero, Act.put, List.setIfInBounds_toArray, List.set_cons_zero, List.set_cons_succ]
        have hB8 : Below W1.heap.size W1 (w3.alloc (.cells #[Value.slice (some ⟨g, 0, none⟩) 2 2] 24)) := hB5.alloc hB5.size _
        refine wpAnyB_one (i := 4) (by kernel_rfl) rfl (fun K hK => ?_)
        go_simp
        refine hK.out _ _ (meetB.both (hS' _ hB8) trivial) (fun hM2 => ?_)
        clear hK K
        replace hM := hM2
        clear hM2
        try simp only [List.getElem_toArray, List.getElem_cons_succ, List.getElem_cons_zero, Act.put, List.setIfInBounds_toArray, List.set_cons_zero, List.set_cons_succ]
        refine wpAnyB_one (i := 26) (by kernel_rfl) rfl (fun K hK => ?_)
        (refine step_append_rows (by rfl) _ _ (by rfl) W1.heap.size _ [Value.slice (some ⟨g, 0, none⟩) 2 2] xs3 a3 c3 (by rfl) ((OwnV.one _ _).mono hB5.size) (by rfl) ((hO4.alloc _).cellsV) hV4.cells1 (hB8).size (by have := hV4.1; have := bestM_len D U2; simp; omega) ?_ (by simp); intro ao5 cap5 w5 hO5 hB6 hG6; have hB7 := (hB8).trans hB6)
        refine hK.out _ _ (meetB.both (hS' _ hB7) trivial) (fun hM2 => ?_)
        clear hK K
        replace hM := hM2
        clear hM2
        try simp only [List.getElem_toArray, List.getElem_cons_succ, List.getElem_cons_zero, Act.put, List.setIfInBounds_toArray, List.set_cons_zero, List.set_cons_succ]
        refine wpAnyB_take (i := 27) (v := ?_) false rfl (by kernel_rfl) (by kernel_rfl) (by kernel_rfl) (by kernel_rfl) (by kernel_rfl) (fun _ _ _ h => h) (Or.inl ⟨by rfl, ?_⟩) hM (fun hM2 => ?_)
        rotate_left
        · (intro w hSw; replace hSw := hSw.1; (try dsimp only at hSw); go_simp; try with_reducible rfl)
        replace hM := hM2
        clear hM2
        try simp only [List.getElem_toArray, List.getElem_cons_succ, List.getElem_cons_zero, Act.put, List.setIfInBounds_toArray, List.set_cons_zero, List.set_cons_succ]
        refine wpAnyB_done (by kernel_rfl) ?_ _
        have hV5 : ValsOf w5 (Value.slice (some ⟨g, 0, none⟩) 2 2 :: xs3) (e :: bestM D U2) := hG6 _ _ (HPUT.out _ _ _ (hB8) (hV4.below ((Below.refl _ _).alloc (Nat.le_refl _) _)))
        clear hG6 hM hS' hA
        have hO6 : OwnV w5 W1.heap.size (.slice (some ao5) (Value.slice (some ⟨g, 0, none⟩) 2 2 :: xs3).length cap5) (Value.slice (some ⟨g, 0, none⟩) 2 2 :: xs3) := by
          have e : 1 + xs3.length = (Value.slice (some ⟨g, 0, none⟩) 2 2 :: xs3).length := by simp [Nat.add_comm]
          rw [← e]
          exact hO5
        have hE6 : Value.slice (some ao5) (1 + xs3.length) cap5 = .slice (some ao5) (Value.slice (some ⟨g, 0, none⟩) 2 2 :: xs3).length cap5 := by simp [Nat.add_comm]
        have hl5 := hV5.1
        simp only [List.length_cons] at hl5
        have hs5 := hB7.size
        have HhO6 := Lib.hid hO6
        clear hO6
        have HhE6 := Lib.hid hE6
        clear hE6
        have HhV5 := Lib.hid hV5
        clear hV5
        have HhB7 := Lib.hid hB7
        clear hB7
        have Hhl5 := Lib.hid hl5
        clear hl5
        clear hO5
        go_wp2_with fail
        refine (Hhih1.out _ HhB7.out).mono ?_
        rintro e6 w6 ⟨a6, c6, xs6, rfl, hB10, hO10, hV10⟩
        have hB9 := HhB1.out.trans ((HhB7.out.trans (hB10.mono hs5)).mono hs1)
        have hV9 := HhV5.out.below hB10
        have hO9 := (HhO6.out.below hB10).mono hs1
        have hO11 := hO10.mono (Nat.le_trans hs1 hs5)
        have hl6 := hV10.1
        by_cases hcmp : (bestM D used).length ≤ (bestM D U2).length + 1
        · have d1 : decide (((1 + xs3.length : Nat) : Int) < (xs6.length : Int)) = false := decide_eq_false (by have := Hhl5.out; omega)
          have d2 : decide (1 + (xs3.length : Int) < (xs6.length : Int)) = false := decide_eq_false (by have := Hhl5.out; omega)
          clear hl6 hB10 hO10
          have HhB9 := Lib.hid hB9
          clear hB9
          have HhV9 := Lib.hid hV9
          clear hV9
          have HhO9 := Lib.hid hO9
          clear hO9
          have HhV10 := Lib.hid hV10
          clear hV10
          have HhO11 := Lib.hid hO11
          clear hO11
          have Hhcmp := Lib.hid hcmp
          clear hcmp
          go_wp2_with fail
          go_ret
          exact ⟨ao5, cap5, Value.slice (some ⟨g, 0, none⟩) 2 2 :: xs3, congrArg Ending.returned HhE6.out, HhB9.out, HhO9.out, by rw [HT.out (HF.out _ _ hu1 hu2) Hhcmp.out]; exact HhV9.out⟩
        · have d1 : decide (((1 + xs3.length : Nat) : Int) < (xs6.length : Int)) = true := decide_eq_true (by have := Hhl5.out; omega)
          have d2 : decide (1 + (xs3.length : Int) < (xs6.length : Int)) = true := decide_eq_true (by have := Hhl5.out; omega)
          clear hl6 hB10 hO10
          have HhB9 := Lib.hid hB9
          clear hB9
          have HhV9 := Lib.hid hV9
          clear hV9
          have HhO9 := Lib.hid hO9
          clear hO9
          have HhV10 := Lib.hid hV10
          clear hV10
          have HhO11 := Lib.hid hO11
          clear hO11
          have Hhcmp := Lib.hid hcmp
          clear hcmp
          go_wp2_with fail
          go_ret
          exact ⟨a6, c6, xs6, rfl, HhB9.out, HhO11.out, by rw [HL.out (HF.out _ _ hu1 hu2) Hhcmp.out]; exact HhV10.out⟩

theorem edgesV_small {n : Int} {rs : List Int} : (∀ e ∈ edgesV n rs, e.1 < 7 ∧ e.2 < 7) ∧ (edgesV n rs).length ≤ 49 := by
  cases h : isGraphB n rs
  · rw [edgesV_no h]
    exact ⟨fun e he => by simp at he, by decide⟩
  · obtain ⟨rfl, g⟩ := VG.of h
    rw [edgesV_of h]
    have h7 := g.le
    exact ⟨fun e he => edge_small g he, Nat.le_trans (edgesTo_len rs rs.length) (Nat.mul_le_mul h7 h7)⟩
theorem OwnV.cap_le {w : World} {base n cap : Nat} {ao : Option Addr} {xs : List Value} (h : OwnV w base (.slice ao n cap) xs) : xs.length ≤ cap := by
  obtain ⟨hl, ⟨h1, h2⟩ | ⟨g, cp, cur, hv, hg, hb, hn, hm, hsz, ht⟩⟩ := h
  · omega
  · simp only [Value.slice.injEq] at hv
    obtain ⟨-, -, rfl⟩ := hv
    exact hn

set_option maxRecDepth 100000 in
set_option maxHeartbeats 1000000 in
theorem implMatchOf_any (n : Int) (rs : List Int) (ro : Option Addr) (rc : Nat) (w : World) (hr : IntsAt w ro rs) (hrl : rs.length ≤ 1048576) :
    Calls Try.prog 16 #[.agg #[.int .i64 n, .slice ro rs.length rc]] w (RetM w (bestM (edgesV n rs) 0)) := by
  obtain ⟨s1, s2⟩ := edgesV_small (n := n) (rs := rs)
  go_enter Try.func16, Try.ntmps16
  go_wp2_with fail
  generalize hW : w.alloc _ = W1
  obtain ⟨hB, -, k0⟩ := alloc1 hW
  replace hr := hr.below hB
  have hb0 := k0.lt
  have hc0 := k0.cell 0
  have hc1 := k0.cell 1
  simp at hc0 hc1
  clear hW k0
  have HhB := Lib.hid hB
  clear hB
  refine (implEdges_all n rs ro rc W1 hr hrl).mono ?_
  rintro e w2 ⟨ao, cap, xs, rfl, hB2, hO, hV⟩
  have hM := implMatched_any (edgesV n rs) xs ao xs.length cap 0 w2 rfl hO.cellsV hV hO.cap_le s1 (by omega) s2
  have hs2 := hB2.size
  have hs1 := HhB.out.size
  have HhB2 := Lib.hid hB2
  clear hB2
  clear hV hO
  go_wp2_with fail
  refine hM.mono ?_
  rintro e w3 ⟨a3, c3, xs3, rfl, hB3, hO3, hV3⟩
  have hBz := HhB.out.trans ((HhB2.out.trans (hB3.mono hs2)).mono hs1)
  have hO4 := hO3.mono (Nat.le_trans hs1 hs2)
  clear hM hB3 hO3
  have HhBz := Lib.hid hBz
  clear hBz
  have HhO4 := Lib.hid hO4
  clear hO4
  have HhV3 := Lib.hid hV3
  clear hV3
  go_wp2_with fail
  go_ret
  exact ⟨a3, c3, xs3, rfl, HhBz.out, HhO4.out, HhV3.out⟩

set_option maxRecDepth 100000 in
set_option maxHeartbeats 1000000 in
theorem specMatchOf_any (n : Int) (rs : List Int) (ro : Option Addr) (rc : Nat) (w : World) (hr : IntsAt w ro rs) (hrl : rs.length ≤ 1048576) :
    Calls Try.prog 19 #[.agg #[.int .i64 n, .slice ro rs.length rc]] w (RetM w (bestM (edgesV n rs) 0)) := by
  obtain ⟨s1, s2⟩ := edgesV_small (n := n) (rs := rs)
  go_enter Try.func19, Try.ntmps19
  go_wp2_with fail
  generalize hW : w.alloc _ = W1
  obtain ⟨hB, -, k0⟩ := alloc1 hW
  replace hr := hr.below hB
  have hb0 := k0.lt
  have hc0 := k0.cell 0
  have hc1 := k0.cell 1
  simp at hc0 hc1
  clear hW k0
  have HhB := Lib.hid hB
  clear hB
  refine (specEdges_all n rs ro rc W1 hr hrl).mono ?_
  rintro e w2 ⟨ao, cap, xs, rfl, hB2, hO, hV⟩
  have hM := specMatch_any (edgesV n rs) xs ao xs.length cap hV.1 s1 s2 (edgesV n rs).length 0 0 w2 (by omega) hO.cellsV hV (by omega)
  have hs2 := hB2.size
  have hs1 := HhB.out.size
  have HhB2 := Lib.hid hB2
  clear hB2
  clear hV hO
  go_wp2_with fail
  refine hM.mono ?_
  rintro e w3 ⟨a3, c3, xs3, rfl, hB3, hO3, hV3⟩
  have hBz := HhB.out.trans ((HhB2.out.trans (hB3.mono hs2)).mono hs1)
  have hO4 := hO3.mono (Nat.le_trans hs1 hs2)
  clear hM hB3 hO3
  have HhBz := Lib.hid hBz
  clear hBz
  have HhO4 := Lib.hid hO4
  clear hO4
  have HhV3 := Lib.hid hV3
  clear hV3
  go_wp2_with fail
  go_ret
  exact ⟨a3, c3, xs3, rfl, HhBz.out, HhO4.out, HhV3.out⟩

end Go.Proofs.Ytgklgheaojoimaa
