/-
  The search of firstList of the program, for whatever two functions: the first list of so many different vertices. The functions' worlds: those that have grown from a world but for some blocks.
-/
import Derived.Test.YtjikmjhpmkakoaaGreatDoorPkCardCographs04
import Derived.Test.YtjikmjhpmkakoaaGreatDoorPkCardCographs06
import Derived.Laws.EntriesVeiled
namespace Go.Proofs.YtjikmjhpmkakoaaGreatDoor
open Go.RowKit

/-! ### The plain search -/
def preF {S : Type} (step : Nat → S → S × Bool) (s : S) : Nat → S × Bool
  | 0 => (s, true)
  | j + 1 => if (preF step s j).2 = true then step j (preF step s j).1 else preF step s j
theorem preF_go {S : Type} {step : Nat → S → S × Bool} {s s' : S} {j : Nat} (h : preF step s j = (s', true)) : preF step s (j + 1) = step j s' := by
  rw [preF, h]; rfl
theorem preF_stop {S : Type} {step : Nat → S → S × Bool} {s : S} {j : Nat} (h : (preF step s j).2 = false) : ∀ i, j ≤ i → preF step s i = preF step s j
  | 0, hi => by obtain rfl : j = 0 := by omega
                rfl
  | i + 1, hi => by
    rcases Nat.lt_or_ge i j with h1 | h1
    · obtain rfl : j = i + 1 := by omega
      rfl
    · have e := preF_stop h i h1
      rw [preF, e, h]; rfl
abbrev FL (S : Type) := S × Option (List Int)
def flSub {S : Type} (rec : S → List Int → FL S) (may : List Int → Bool) (l : List Int) (v : Nat) (t : FL S) : FL S :=
  if inB l (v : Int) = false ∧ may (l ++ [(v : Int)]) = true then rec t.1 (l ++ [(v : Int)]) else (t.1, none)
def flStep {S : Type} (rec : S → List Int → FL S) (may : List Int → Bool) (l : List Int) (v : Nat) (t : FL S) : FL S × Bool := (flSub rec may l v t, (flSub rec may l v t).2.isNone)
/-- The search with f places to go. -/
def flRun {S : Type} (V : S → List Int → S × Bool) (may : List Int → Bool) (N : Nat) : Nat → S → List Int → FL S
  | 0, s, l => ((V s l).1, if (V s l).2 = true then some l else none)
  | f + 1, s, l => (preF (flStep (flRun V may N f) may l) (s, none) N).1

/-- The slice address ao reads as xs, out of a block that is none of X. -/
def IntsX (X : Nat → Prop) (w : World) (ao : Option Addr) (xs : List Int) : Prop :=
  0 < xs.length → ∃ b off, ao = some ⟨b, off, none⟩ ∧ ¬X b ∧ b < w.heap.size ∧ ∀ k, k < xs.length → w.cell? ⟨b, off + k, none⟩ = some (.int .i64 (gi xs k))
theorem IntsX.ints {X : Nat → Prop} {w : World} {ao : Option Addr} {xs : List Int} (h : IntsX X w ao xs) : IntsAt w ao xs := fun h0 => by
  obtain ⟨b, off, h1, _, h2, h3⟩ := h h0
  exact ⟨b, off, h1, h2, h3⟩
theorem IntsX.only {X : Nat → Prop} {w w' : World} {ao : Option Addr} {xs : List Int} (h : IntsX X w ao xs) (hb : Only X w.heap.size w w') : IntsX X w' ao xs := fun h0 => by
  obtain ⟨b, off, h1, h2, h3, h4⟩ := h h0
  exact ⟨b, off, h1, h2, Nat.lt_of_lt_of_le h3 hb.size, fun k hk => by rw [hb.cell (p := ⟨b, off + k, none⟩) h3 h2]; exact h4 k hk⟩
theorem OwnE.intsX {X : Nat → Prop} {w : World} {base cap : Nat} {ao : Option Addr} {xs : List Int} (h : OwnE w base ao cap xs) (hX : ∀ b, base ≤ b → ¬X b) : IntsX X w ao xs := fun h0 => by
  obtain ⟨g, rfl, hg, hR⟩ := h.row h0
  exact ⟨g, 0, rfl, hX g hg, hR.lt, fun k hk => by rw [Nat.zero_add]; exact hR.cell k hk⟩

/-- A test of lists: a function value that reads what it captured. -/
def MayOf (K : Nat) (caps : Array Value) (X : Nat → Prop) (W : World) (may : List Int → Bool) (nmax : Nat) : Prop :=
  ∀ (m : LateX X W) (l : List Int) (ao : Option Addr) (n cap : Nat), IntsAt m.w ao l → n = l.length → n ≤ cap → n ≤ nmax → 0 < n → Calls Tryz.prog K (#[.slice ao n cap] ++ caps) m.w fun e w' => e = .returned (.bool (may l)) ∧ Below m.w.heap.size m.w w'
/-- What is asked of a whole list: it may turn its own variables (the blocks of X). -/
def HoldsOf {S : Type} (K : Nat) (caps : Array Value) (X : Nat → Prop) (W : World) (V : S → List Int → S × Bool) (I : S → World → Prop) (n : Nat) : Prop :=
  ∀ (m : LateX X W) (s : S) (l : List Int) (ao : Option Addr) (cap : Nat), I s m.w → IntsAt m.w ao l → n = l.length → n ≤ cap → Calls Tryz.prog K (#[.slice ao n cap] ++ caps) m.w fun e w' => e = .returned (.bool (V s l).2) ∧ I (V s l).1 w' ∧ Only X m.w.heap.size m.w w'
def LateX.on {X : Nat → Prop} {W : World} (m : LateX X W) {w' : World} (h : Only X m.w.heap.size m.w w') : LateX X W := ⟨w', m.only.trans (h.mono m.size fun _ _ h => h)⟩
theorem LateX.onB_only {X : Nat → Prop} {W : World} (m : LateX X W) {w' : World} (h : Below m.w.heap.size m.w w') : Only X W.heap.size W w' := m.only.more h m.size

/-- 'more := append(l[:len(l):len(l)], y)': always new memory. -/
theorem wpList_append_full {ops : Array Oper} {rest : List Oper} {o : Oper} {a : Act} {Q : Exit → Act → World → Prop} {w : World} (hgd : o.guard = none) (s x : Operand)
    (ho : o.op = .call { callee := .builtin .append, args := #[s, x], argTypes := #[24, 24] })
    (lo : Option Addr) (l : List Int) (n : Nat) (y : Int) (hs : a.eval s = .slice lo n n) (hl : IntsAt w lo l) (hn : n = l.length) (hx : a.eval x = .slice (some ⟨w.heap.size, 0, none⟩) 1 1) (hlen : n ≤ 1048576)
    (h : ∀ ao' cap' w', OwnL w' w.heap.size (.slice ao' (n + 1) cap') (l ++ [y]) → Below w.heap.size w w' → wpList Tryz.prog ops Q rest (a.put o.dst (.slice ao' (n + 1) cap')) w') :
    wpList Tryz.prog ops Q (o :: rest) a (w.alloc (.cells #[.int .i64 y] 3)) := by
  subst hn
  obtain ⟨i0, hi, hz0, hz1, hz2⟩ := info_parts info_int
  have hB : Below w.heap.size w (w.alloc (.cells #[.int .i64 y] 3)) := (Below.refl _ _).alloc (Nat.le_refl _) _
  refine wpList_append_grows (w.alloc (.cells #[.int .i64 y] 3)) hgd s x 24 ho 3 i0 (.int .i64 0) 1 8 Tryz.underlying24 hi hz0 hz1 hz2 rfl (by decide) lo l.length l.length (l.map (Value.int .i64)) hs ?_ (by simp) ?_
    ⟨w.heap.size, 0, none⟩ 1 1 [.int .i64 y] hx rfl ?_ ?_ (by omega) (by unfold maxLen; omega) (by omega) ?_
  · intro h0
    by_cases hz : l.length = 0
    · exact ⟨hz, hz⟩
    · obtain ⟨b, off, e, _⟩ := hl (by omega)
      rw [e] at h0; cases h0
  · intro b hb j u hj
    rw [List.getElem?_map, Option.map_eq_some_iff] at hj
    obtain ⟨z, hz, rfl⟩ := hj
    obtain ⟨hjl, rfl⟩ := List.getElem?_eq_some_iff.1 hz
    obtain ⟨b', off, e, hlt, hc⟩ := hl (by omega)
    rw [hb] at e
    simp only [Option.some.injEq] at e
    subst e
    have := hc j hjl
    rw [show gi l j = l[j] by simp [gi, hjl]] at this
    have e2 : (⟨b', off, none⟩ : Addr).add j = ⟨b', off + j, none⟩ := by unfold Addr.add; split <;> simp_all
    rw [e2, hB.cell (p := ⟨b', off + j, none⟩) hlt]; exact this
  · intro j u hj
    match j, hj with
    | 0, hj => simp at hj; subst hj; simp [Addr.add]
  · intro u hu; simp at hu; subst hu; rfl
  · intro v' w' h1 h2
    have h3 : OwnL w' (w.heap.size + 1) v' (l ++ [y]) := by unfold OwnL; simpa using h1
    obtain ⟨ao', cap', rfl⟩ := h3.form
    have e : (l ++ [y]).length = l.length + 1 := by simp
    rw [e] at h3 ⊢
    exact h ao' cap' w' (h3.mono (by omega)) (hB.grown h2 (by simp) (fun k hk => by cases hk))

theorem clone_any (l : List Int) (la : Addr) (n lc : Nat) (w : World) (hl : IntsAt w (some la) l) (hn : n = l.length) (hlen : n ≤ 1048576) :
    Calls Tryz.prog 89 #[.slice (some la) n lc] w fun e w' => ∃ ao cap, e = .returned (.slice ao n cap) ∧ ao ≠ none ∧ OwnE w' w.heap.size ao cap l ∧ Below w.heap.size w w' := by
  subst hn
  have q22 : ∀ (w : World) (a : Option Addr) (n c n' c' : Nat), (binOp .eql 24 (.slice a n c) (.slice none n' c')).run Tryz.prog w = .ok (.bool a.isNone) w := fun w a n c n' c' => Lib.run_eql_slice_nil w _ _ a n c n' c' Tryz.underlying24
  go_enter Tryz.func89, Tryz.ntmps89
  go_wp2_with (first | (at_builtin; go_must (refine wpList_append_cp rfl _ _ rfl w.heap.size _ la l lc rfl rfl (hl.below ((Below.refl _ _).alloc (Nat.le_refl _) _)) (by simp) hlen ?_); intro ao1 cap1 w1 hne1 hown1 hBw1))
  go_ret
  exact ⟨ao1, cap1, rfl, hne1, hown1, ((Below.refl _ _).alloc (Nat.le_refl _) _).trans (hBw1.mono (by simp))⟩

def LateX.onB {X : Nat → Prop} {W : World} (m : LateX X W) {w' : World} (h : Below m.w.heap.size m.w w') : LateX X W := ⟨w', m.onB_only h⟩
theorem flStep_skip {S : Type} {rec : S → List Int → FL S} {may : List Int → Bool} {l : List Int} {v : Nat} {s : S} (h : inB l (v : Int) = true ∨ may (l ++ [(v : Int)]) = false) : flStep rec may l v (s, none) = ((s, none), true) := by
  unfold flStep flSub
  rw [if_neg]
  · rfl
  · rintro ⟨a, b⟩; rcases h with h | h
    · rw [h] at a; cases a
    · rw [h] at b; cases b
theorem flStep_go {S : Type} {rec : S → List Int → FL S} {may : List Int → Bool} {l : List Int} {v : Nat} {s : S} {r : FL S} (h1 : inB l (v : Int) = false) (h2 : may (l ++ [(v : Int)]) = true) (h3 : rec s (l ++ [(v : Int)]) = r) : flStep rec may l v (s, none) = (r, r.2.isNone) := by
  unfold flStep flSub
  rw [if_pos ⟨h1, h2⟩, h3]

set_option maxRecDepth 100000 in
set_option maxHeartbeats 2000000 in
theorem flSearch_any {S : Type} (V : S → List Int → S × Bool) (may : List Int → Bool) (I : S → World → Prop) (X : Nat → Prop) (rs : List Int) (ro : Option Addr) (rc n Km Kh nB hB gB mB sB : Nat) (capsM capsH : Array Value) (W : World) (hN7 : rs.length ≤ 7) (hn1 : 1 ≤ n) (hn : n ≤ 7)
    (bn : Blk W nB #[.int .i64 n] 3) (bh : Blk W hB #[.func (.func Kh) #[] capsH] 69) (bg : Blk W gB #[.int .i64 rs.length, .slice ro rs.length rc] 26) (bm : Blk W mB #[.func (.func Km) #[] capsM] 69)
    (bs : Blk W sB #[.func (.func 154) #[] #[.pointer (some ⟨nB, 0, none⟩), .pointer (some ⟨hB, 0, none⟩), .pointer (some ⟨gB, 0, none⟩), .pointer (some ⟨mB, 0, none⟩), .pointer (some ⟨sB, 0, none⟩)]] 91)
    (xn : ¬X nB) (xh : ¬X hB) (xg : ¬X gB) (xm : ¬X mB) (xs : ¬X sB) (hX : ∀ b, X b → b < W.heap.size)
    (hEm : ∀ args w, Sem.run Tryz.prog (callFunc Km args) w = .ok (.enter Km args) w) (hEh : ∀ args w, Sem.run Tryz.prog (callFunc Kh args) w = .ok (.enter Kh args) w)
    (hMay : MayOf Km capsM X W may n) (hHolds : HoldsOf Kh capsH X W V I n) (hI : ∀ s w w', I s w → Below w.heap.size w w' → I s w') :
    ∀ (f : Nat) (l : List Int) (s : S) (m : LateX X W) (lo : Option Addr) (nn lc : Nat), l.length + f = n → nn = l.length → IntsX X m.w lo l → (l.length = 0 → lo = none) → nn ≤ lc → I s m.w →
      Calls Tryz.prog 154 #[.slice lo nn lc, .pointer (some ⟨nB, 0, none⟩), .pointer (some ⟨hB, 0, none⟩), .pointer (some ⟨gB, 0, none⟩), .pointer (some ⟨mB, 0, none⟩), .pointer (some ⟨sB, 0, none⟩)] m.w fun e w' =>
        ∃ ao cap, e = .returned (.slice ao ((flRun V may rs.length f s l).2.getD []).length cap) ∧ ao.isNone = (flRun V may rs.length f s l).2.isNone ∧ ∃ m' : LateX X W, w' = m'.w ∧ Only X m.w.heap.size m.w m'.w ∧ I (flRun V may rs.length f s l).1 m'.w ∧ OwnE m'.w W.heap.size ao cap ((flRun V may rs.length f s l).2.getD []) := by
  have ln := bn.lt
  have lh := bh.lt
  have lg := bg.lt
  have lm := bm.lt
  have ls := bs.lt
  have cn := bn.cell 0
  have ch := bh.cell 0
  have cg := bg.cell 0
  have cg1 := bg.cell 1
  have cm := bm.cell 0
  have cs := bs.cell 0
  simp at cn ch cg cg1 cm cs
  clear bn bh bg bm bs
  have HhMay := Lib.hid hMay
  clear hMay
  have HhHolds := Lib.hid hHolds
  clear hHolds
  have HhX := Lib.hid hX
  clear hX
  have HhI := Lib.hid hI
  clear hI
  intro f
  induction f with
  | zero =>
    intro l s m lo nn lc hlf hnn hl hlo hlc hIs
    obtain ⟨b, off, rfl, hxb, -, -⟩ := hl (by omega)
    clear hlo
    subst hnn
    have hln : l.length = n := by omega
    have hz : ((l.length : Int) == (n : Int)) = true := by rw [beq_iff_eq]; omega
    have hHo := HhHolds.out m s l (some ⟨b, off, none⟩) lc hIs hl.ints hln.symm (by omega)
    rw [← hln] at hHo
    have hl7 : l.length ≤ 1048576 := by omega
    have HhHo := Lib.hid hHo
    clear hHo
    have Hhln := Lib.hid hln
    clear hln
    have Hhlf := Lib.hid hlf
    clear hlf
    have HhIs := Lib.hid hIs
    clear hIs
    go_enter Tryz.func154, Tryz.ntmps154
    go_wp2_with fail
    refine HhHo.out.mono ?_
    rintro e w1 ⟨rfl, hI1, hO1⟩
    have hl1 := hl.only hO1
    have HV : Hid (flRun V may rs.length 0 s l = ((V s l).1, if (V s l).2 = true then some l else none)) := rfl
    obtain ⟨m1, rfl⟩ : ∃ m1 : LateX X W, m1.w = w1 := ⟨m.on hO1, rfl⟩
    have HhO1 := Lib.hid hO1
    clear hO1
    have HhI1 := Lib.hid hI1
    clear hI1
    cases hp : (V s l).2
    · go_wp2_with fail
      go_ret
      rw [HV.out, hp]
      exact ⟨none, 0, rfl, rfl, m1, rfl, HhO1.out, HhI1.out, .inl (OwnL.nil _ _)⟩
    · go_wp2_with fail
      refine (clone_any l ⟨b, off, none⟩ l.length lc m1.w hl1.ints rfl hl7).mono ?_
      rintro e w2 ⟨ao, cap, rfl, hne, hown, hB2⟩
      obtain ⟨la, rfl⟩ := Option.ne_none_iff_exists'.1 hne
      go_wp2_with fail
      go_ret
      rw [HV.out, hp]
      exact ⟨some la, cap, rfl, rfl, m1.onB hB2, rfl, HhO1.out.more hB2 HhO1.out.size, HhI.out _ _ _ HhI1.out hB2, hown.mono' m1.size⟩
  | succ f ih =>
    intro l s m lo nn lc hlf hnn hl hlo hlc hIs
    subst hnn
    have hz : ((l.length : Int) == (n : Int)) = false := by rw [beq_eq_false_iff_ne]; omega
    have hl7 : l.length ≤ 6 := by omega
    have Hih := Lib.hid ih
    clear ih
    have Hhlf := Lib.hid hlf
    clear hlf
    have HhIs := Lib.hid hIs
    clear hIs
    have Hhl := Lib.hid hl
    clear hl
    have Hhlo := Lib.hid hlo
    clear hlo
    go_enter Tryz.func154, Tryz.ntmps154
    go_wp2_with fail
    go_loopw [22] (fun i wr => ∃ m' : LateX X W, wr = m'.w ∧ Only X m.w.heap.size m.w m'.w ∧ ∃ (j : Nat) (s' : S), j ≤ rs.length ∧ i = .int .i64 j ∧ preF (flStep (flRun V may rs.length f) may l) (s, none) j = ((s', none), true) ∧ I s' m'.w) (fun i _ => rs.length - (intOf i).toNat)
    case atStart => exact ⟨m, rfl, Only.refl _ _ _, 0, s, by omega, rfl, rfl, HhIs.out⟩
    case round =>
      obtain ⟨m1, rfl, hO, j, s', hj, rfl, hP, hIs⟩ := hrel
      have hl1 := Hhl.out.only hO
      have hI1 := hl1.ints
      have hms := m1.size
      clear HhIs
      have HhO := Lib.hid hO
      clear hO
      have HhP := Lib.hid hP
      clear hP
      have HhIs := Lib.hid hIs
      clear hIs
      have Hhl1 := Lib.hid hl1
      clear hl1
      by_cases hlt : j < rs.length
      · have hcase : lo = none ∨ ∃ lb lofs, lo = some ⟨lb, lofs, none⟩ := by
          by_cases h0 : l.length = 0
          · exact .inl (Hhlo.out h0)
          · obtain ⟨b, off, e, _⟩ := hI1 (by omega)
            exact .inr ⟨b, off, e⟩
        have hCon := fun (n c : Nat) (w : World) h1 h2 => contains_list l (j : Int) lo n c w h1 h2 (by omega)
        have HhI1 := Lib.hid hI1
        clear hI1
        have hl8 : (l ++ [(j : Int)]).length = l.length + 1 := by simp
        have Hhl8 := Lib.hid hl8
        clear hl8
        rcases hcase with rfl | ⟨lb, lofs, rfl⟩
        all_goals
          cases hc : inB l (j : Int)
          · simp only [hc] at hCon
            have Hhc := Lib.hid hc
            clear hc
            go_wp2_with (first | (at_builtin; go_must (refine wpList_append_full rfl _ _ rfl _ l _ (j : Int) rfl HhI1.out (by omega) rfl (by omega) ?_); intro ao1 cap1 w1 hown1 hBw1) | (go_at_call 155; refine (hCon _ _ _ (HhI1.out.below hBw1) (by omega)).mono ?_; rintro e w2 ⟨rfl, hBw2⟩; have hB2 := below_more hBw1 hBw2; obtain ⟨m2, hm2⟩ : ∃ m2 : LateX X W, m2.w = w2 := ⟨m1.onB hB2, rfl⟩; subst hm2))
            have hE1 : OwnE w1 m1.w.heap.size ao1 cap1 (l ++ [(j : Int)]) := by
              refine .inl ?_
              rw [Hhl8.out]; exact hown1
            have hr1 := hE1.room'
            rw [Hhl8.out] at hr1
            have hE2 := (hE1.mono' hms).below hBw2
            refine (HhMay.out m2 (l ++ [(j : Int)]) ao1 _ cap1 hE2.ints (by rw [Hhl8.out]) (by omega) (by have := Hhlf.out; omega) (by omega)).mono ?_
            rintro e w3 ⟨rfl, hB3⟩
            have hE3 := hE2.below hB3
            have hB4 := below_more hB2 hB3
            obtain ⟨m3, hm3⟩ : ∃ m3 : LateX X W, m3.w = w3 := ⟨m2.onB hB3, rfl⟩
            subst hm3
            clear hBw1 hBw2 hB2 hB3 hE1 hE2 hown1 hCon
            have HhE3 := Lib.hid hE3
            clear hE3
            have HhB4 := Lib.hid hB4
            clear hB4
            cases hm : may (l ++ [(j : Int)])
            · have Hhm := Lib.hid hm
              clear hm
              go_wp2_with fail
              go_roundw
              case rel => exact ⟨m3, rfl, HhO.out.more HhB4.out HhO.out.size, j + 1, s', by omega, by go_num, by rw [preF_go HhP.out]; exact flStep_skip (.inr Hhm.out), HhI.out _ _ _ HhIs.out HhB4.out⟩
              case measure => simp [intOf]; omega
            · have hX3 := HhE3.out.intsX (X := X) (fun b hb h => by have := HhX.out b h; omega)
              have hI3 := HhI.out _ _ _ HhIs.out HhB4.out
              have hlf' : (l ++ [(j : Int)]).length + f = n := by rw [Hhl8.out]; have := Hhlf.out; omega
              have hih := fun (n' : Nat) (h : n' = (l ++ [(j : Int)]).length) (h' : n' ≤ cap1) => Hih.out (l ++ [(j : Int)]) s' m3 ao1 n' cap1 hlf' h hX3 (fun h0 => absurd h0 (by simp)) h' hI3
              have HG := (preF_go HhP.out).trans (flStep_go Hhc.out hm rfl)
              generalize flRun V may rs.length f s' (l ++ [(j : Int)]) = R at hih HG
              have Hhih := Lib.hid hih
              clear hih
              have Hhm := Lib.hid hm
              clear hm
              have HHG := Lib.hid HG
              clear HG
              clear hX3 hI3 hlf'
              rcases R with ⟨s4, _ | x⟩
              · go_wp2_with fail
                refine (Hhih.out _ (by rw [Hhl8.out]) (by omega)).mono ?_
                rintro e w4 ⟨ao4, cap4, rfl, hn4, m4, rfl, hO4, hI4, hE4⟩
                obtain rfl : ao4 = none := by simpa using hn4
                have HhO4 := Lib.hid hO4
                clear hO4
                have HhI4 := Lib.hid hI4
                clear hI4
                have HhE4 := Lib.hid hE4
                clear hE4
                go_wp2_with fail
                go_roundw
                case rel => exact ⟨m4, rfl, (HhO.out.more HhB4.out HhO.out.size).trans (HhO4.out.mono (Nat.le_trans HhO.out.size HhB4.out.size) fun _ _ h => h), j + 1, s4, by omega, by go_num, HHG.out, HhI4.out⟩
                case measure => simp [intOf]; omega
              · have HE : Hid (flRun V may rs.length (f + 1) s l = (s4, some x)) := by
                  show (preF _ (s, none) rs.length).1 = _
                  rw [preF_stop (j := j + 1) (by rw [HHG.out]; rfl) rs.length (by omega), HHG.out]
                go_wp2_with fail
                refine (Hhih.out _ (by rw [Hhl8.out]) (by omega)).mono ?_
                rintro e w4 ⟨ao4, cap4, rfl, hn4, m4, rfl, hO4, hI4, hE4⟩
                rcases ao4 with _ | b4
                · simp at hn4
                clear hn4
                have HhO4 := Lib.hid hO4
                clear hO4
                have HhI4 := Lib.hid hI4
                clear hI4
                have HhE4 := Lib.hid hE4
                clear hE4
                go_wp2_with fail
                go_ret
                rw [HE.out]
                exact ⟨some b4, cap4, rfl, rfl, m4, rfl, (HhO.out.more HhB4.out HhO.out.size).trans (HhO4.out.mono (Nat.le_trans HhO.out.size HhB4.out.size) fun _ _ h => h), HhI4.out, HhE4.out⟩
          · simp only [hc] at hCon
            have Hhc := Lib.hid hc
            clear hc
            go_wp2_with (first | (at_builtin; go_must (refine wpList_append_full rfl _ _ rfl _ l _ (j : Int) rfl HhI1.out (by omega) rfl (by omega) ?_); intro ao1 cap1 w1 hown1 hBw1) | (go_at_call 155; refine (hCon _ _ _ (HhI1.out.below hBw1) (by omega)).mono ?_; rintro e w2 ⟨rfl, hBw2⟩; have hB2 := below_more hBw1 hBw2; obtain ⟨m2, hm2⟩ : ∃ m2 : LateX X W, m2.w = w2 := ⟨m1.onB hB2, rfl⟩; subst hm2))
            have HhB2 := Lib.hid hB2
            clear hB2
            clear hBw1 hBw2 hown1
            go_roundw
            case rel => exact ⟨m2, rfl, HhO.out.more HhB2.out HhO.out.size, j + 1, s', by omega, by go_num, by rw [preF_go HhP.out]; exact flStep_skip (.inl Hhc.out), HhI.out _ _ _ HhIs.out HhB2.out⟩
            case measure => simp [intOf]; omega
      · obtain rfl : j = rs.length := by omega
        have HE : Hid (flRun V may rs.length (f + 1) s l = (s', none)) := by
          show (preF _ (s, none) rs.length).1 = _
          rw [HhP.out]
        go_wp2_with fail
        go_ret
        rw [HE.out]
        exact ⟨none, 0, rfl, rfl, m1, rfl, HhO.out, HhIs.out, .inl (OwnL.nil _ _)⟩

end Go.Proofs.YtjikmjhpmkakoaaGreatDoor
