/-
  The drawing of graphs that often have a hole: l4Holey, and the functions that draw for colours. For texts of at most 2^20 bytes.
  Lists of slices ([][]int) that a call itself makes and appends to.
  The walks of IsClique and IsCliqueCover on both sides. For at most 2^20 rows and sets.
  The walks of IsOrder and CutOf on both sides, l27Front of the reference. For at most 2^20 rows and list elements.
  EdgesOf of the program on a graph. For at most 7 rows.
  The walks of IsWay on both sides. For at most 2^20 rows and list elements; the program's wants that the list's capacity is at least its length.
  BandOf of the reference. For at most 2^20 rows.
-/
import Derived.Test.YtjikmjhpmkakoaaGreatDoorPkCardCographs10
import Derived.Test.YtjikmjhpmkakoaaGreatDoorPkCardCographs02
import Derived.Test.YtjikmjhpmkakoaaGreatDoorPkCardCographs05
import Derived.Test.YtjikmjhpmkakoaaGreatDoorPkCardCographs06
namespace Go.Proofs.YtjikmjhpmkakoaaGreatDoor
open Go.RowKit

end Go.Proofs.YtjikmjhpmkakoaaGreatDoor

namespace Go.Proofs.YtjikmjhpmkakoaaGreatDoor
open Go.RowKit

theorem info_row : (Tryz.prog.info? 24).map (fun i => (i.zero, i.size, i.bytes)) = some (some (.slice none 0 0), 1, 24) := by kernel_rfl

/-- The slice value v owns the slices xs in a row of the call's own, from block 'base' on. -/
def OwnV (w : World) (base : Nat) (v : Value) (xs : List Value) : Prop := w.ownsRow base 24 1 v xs.length xs

theorem OwnV.cells {w : World} {base n cap : Nat} {ao : Option Addr} {xs : List Value} (h : OwnV w base (.slice ao n cap) xs) (h0 : 0 < xs.length) : ∃ g, ao = some ⟨g, 0, none⟩ ∧ base ≤ g ∧ g < w.heap.size ∧ ∀ k u, xs[k]? = some u → w.cell? ⟨g, k, none⟩ = some u := by
  obtain ⟨hl, h1 | ⟨g, cp, cur, hv, hg, hb, hn, hm, hsz, ht⟩⟩ := h
  · omega
  · simp only [Value.slice.injEq] at hv
    obtain ⟨rfl, -, -⟩ := hv
    refine ⟨g, rfl, hg, (Array.getElem?_eq_some_iff.1 hb).1, fun k u hk => ?_⟩
    obtain ⟨hkl, -⟩ := List.getElem?_eq_some_iff.1 hk
    have : cur[k]? = some u := by
      have e : (cur.toList.take (xs.length * 1))[k]? = xs[k]? := by rw [ht]
      rw [List.getElem?_take, if_pos (by omega), Array.getElem?_toList] at e
      rw [e]; exact hk
    simp only [World.cell?, hb]
    simpa using this

theorem OwnV.form {w : World} {base : Nat} {v : Value} {xs : List Value} (h : OwnV w base v xs) : ∃ ao cap, v = .slice ao xs.length cap := by
  obtain ⟨hl, ⟨h1, h2⟩ | ⟨g, cp, cur, hv, -⟩⟩ := h
  · exact ⟨none, 0, by rw [h1, h2]⟩
  · exact ⟨_, _, hv⟩

theorem OwnV.alloc {w : World} {base : Nat} {v : Value} {xs : List Value} (h : OwnV w base v xs) (o : Obj) : OwnV (w.alloc o) base v xs := World.ownsRow.alloc h o

theorem OwnV.below {w w' : World} {base : Nat} {v : Value} {xs : List Value} (h : OwnV w base v xs) (hb : Below w.heap.size w w') : OwnV w' base v xs := by
  obtain ⟨h0, h1 | ⟨g, cap, cur, hv, hg, hh, r⟩⟩ := h
  · exact ⟨h0, .inl h1⟩
  · exact ⟨h0, .inr ⟨g, cap, cur, hv, hg, by rw [hb.block g (Array.getElem?_eq_some_iff.1 hh).1]; exact hh, r⟩⟩

/-- '[][]int{}' -/
theorem OwnV.empty (w : World) : OwnV (w.alloc (.cells #[] 24)) w.heap.size (.slice (some ⟨w.heap.size, 0, none⟩) 0 0) [] :=
  ⟨by simp, .inr ⟨w.heap.size, 0, #[], rfl, Nat.le_refl _, by show (w.heap.push _)[w.heap.size]? = _; simp, Nat.le_refl _, by simp, by simp, by simp⟩⟩

theorem OwnV.own {w : World} {base : Nat} {v : Value} {xs : List Value} (h : OwnV w base v xs) : ∀ k, v.ownBlock = some k → base ≤ k := by
  intro k hk
  obtain ⟨hl, ⟨h1, h2⟩ | ⟨g, cp, cur, hv, hg, -⟩⟩ := h
  · rw [h1] at hk; cases hk
  · rw [hv] at hk
    simp only [Value.ownBlock, Option.some.injEq] at hk
    omega

/-- 'out = append(out, y)', out the call's own, y a slice. -/
theorem wpList_append_row {ops : Array Oper} {rest : List Oper} {o : Oper} {a : Act} {Q : Exit → Act → World → Prop} {w : World} (hgd : o.guard = none) (s x : Operand)
    (ho : o.op = .call { callee := .builtin .append, args := #[s, x], argTypes := #[133, 133] })
    (base : Nat) (v : Value) (xs : List Value) (y : Value) (hy : y.oneCell' = true) (hs : a.eval s = v) (hown : OwnV w base v xs) (hx : a.eval x = .slice (some ⟨w.heap.size, 0, none⟩) 1 1) (hbase : base ≤ w.heap.size) (hlen : xs.length ≤ 1048576)
    (h : ∀ ao cap w', OwnV w' base (.slice ao (xs.length + 1) cap) (xs ++ [y]) → Below base w w' → (w.alloc (.cells #[y] 24)).grownBy w' v.ownBlock → wpList Tryz.prog ops Q rest (a.put o.dst (.slice ao (xs.length + 1) cap)) w') :
    wpList Tryz.prog ops Q (o :: rest) a (w.alloc (.cells #[y] 24)) := by
  obtain ⟨i0, hi, hz0, hz1, hz2⟩ := info_parts info_row
  refine wpList_append_own (w.alloc (.cells #[y] 24)) hgd s x 133 ho base 24 i0 (.slice none 0 0) 1 24 Tryz.underlying133 hi hz0 hz1 hz2 rfl (by decide) v xs.length xs hs (hown.alloc _)
    ⟨w.heap.size, 0, none⟩ 1 1 [y] hx rfl ?_ ?_ (by unfold maxLen; omega) (by omega) (by simp; omega) ?_
  · intro j u hj
    match j, hj with
    | 0, hj => simp at hj; subst hj; simp [Addr.add]
  · intro u hu; simp at hu; subst hu; exact hy
  · intro v' w' h1 h2 _
    have h3 : OwnV w' base v' (xs ++ [y]) := by unfold OwnV; simpa using h1
    obtain ⟨ao, cap, rfl⟩ := h3.form
    have e : (xs ++ [y]).length = xs.length + 1 := by simp
    rw [e] at h3 ⊢
    refine h ao cap w' h3 ?_ ?_
    · have hb : Below base w (w.alloc (.cells #[y] 24)) := (Below.refl _ _).alloc hbase _
      exact hb.grown h2 (by simp; omega) hown.own
    · exact h2

end Go.Proofs.YtjikmjhpmkakoaaGreatDoor

namespace Go.Proofs.YtjikmjhpmkakoaaGreatDoor
open Go.RowKit

/-- Vertex v of S lacks a neighbour in S. -/
def cliqueBad (rs : List Int) (S v : Nat) : Bool := S.testBit v && decide (¬ gn rs v &&& S = S - 2 ^ v)
def cliqueN (rs : List Int) (S : Nat) : Bool := decide (∀ v, v < rs.length → cliqueBad rs S v = false)
def cliqueB (n : Int) (rs : List Int) (s : Int) : Bool := isSetB n rs s && cliqueN rs s.toNat
theorem cliqueB_no {n : Int} {rs : List Int} {s : Int} (h : isSetB n rs s = false) : cliqueB n rs s = false := by unfold cliqueB; rw [h]; rfl
theorem cliqueN_bad {rs : List Int} {S v : Nat} (hv : v < rs.length) (h : cliqueBad rs S v = true) : cliqueN rs S = false := by
  unfold cliqueN; rw [decide_eq_false_iff_not]; intro a; rw [a v hv] at h; cases h
theorem cliqueN_ok {rs : List Int} {S : Nat} (h : ∀ v, v < rs.length → cliqueBad rs S v = false) : cliqueN rs S = true := by unfold cliqueN; rw [decide_eq_true_eq]; exact h
theorem cliqueB_nat {n : Int} {rs : List Int} {S : Nat} (h : isSetB n rs S = true) : cliqueB n rs S = cliqueN rs S := by unfold cliqueB; rw [h, Bool.true_and, Int.toNat_natCast]

set_option maxHeartbeats 1000000 in
theorem specIsClique_any (n : Int) (rs : List Int) (s : Int) (ro : Option Addr) (rc : Nat) (w : World) (hr : IntsAt w ro rs) (hrl : rs.length ≤ 1048576) :
    Calls Tryz.prog 134 #[.agg #[.int .i64 n, .slice ro rs.length rc], .int .i64 s] w fun e w' => e = .returned (.bool (cliqueB n rs s)) ∧ Below w.heap.size w w' := by
  go_enter Tryz.func134, Tryz.ntmps134
  go_wp2_with fail
  generalize hW : w.alloc _ = W1
  obtain ⟨hB, -, k0⟩ := alloc1 hW
  replace hr := hr.below hB
  have hb0 := k0.lt
  have hc0 := k0.cell 0
  have hc1 := k0.cell 1
  simp at hc0 hc1
  clear hW k0
  have HhB := Lib.hid hB
  clear hB
  obtain ⟨m, hm0⟩ : ∃ m : Later W1, m.w = W1 := ⟨Later.refl _, rfl⟩
  refine (fun h => hm0 ▸ h) ?_
  clear hm0
  cases hv : isSetB n rs s
  · have HE := Lib.hid (cliqueB_no hv)
    go_wp2_with (first | (go_at_call 103; refine (Calls.later m (specIsSet_any _ _ _ _ _ _ (hr.later m) hrl)).mono ?_; rintro e w' ⟨rfl, m, rfl⟩))
    go_ret
    exact ⟨retB (by rw [HE.out]), below_later HhB.out m⟩
  · obtain ⟨rfl, g, S, rfl, hS⟩ := isSetB_true hv
    have HE := Lib.hid (cliqueB_nat hv)
    have hg1 := g.pos
    have hg2 := g.le
    have hp := g.pow.1
    go_wp2_with (first | (go_at_call 103; refine (Calls.later m (specIsSet_any _ _ _ _ _ _ (hr.later m) hrl)).mono ?_; rintro e w' ⟨rfl, m, rfl⟩))
    go_loopw [5] (fun i wr => (∃ m : Later W1, wr = m.w) ∧ ∃ k : Nat, k ≤ rs.length ∧ i = .int .i64 k ∧ ∀ v, v < k → cliqueBad rs S v = false) (fun i _ => rs.length - (intOf i).toNat)
    case atStart => exact ⟨⟨m, rfl⟩, 0, by omega, rfl, fun v h => by omega⟩
    case round =>
      obtain ⟨⟨m, rfl⟩, k, hk, rfl, hP⟩ := hrel
      have HhP := Lib.hid hP
      clear hP
      by_cases hlt : k < rs.length
      · obtain ⟨rb, rofs, rfl, hrb, hrc⟩ := hr.graph g
        have hl := g.lt k hlt
        have q1 : pwN k = ((2 ^ k : Nat) : Int) := pwN_small _ (by omega)
        have q2 : bits .and .i64 (gn rs k : Int) (S : Int) = ((gn rs k &&& S : Nat) : Int) := bits_and_nat _ _ (by omega) (by omega)
        have q3 : 2 ^ k ≤ 2 ^ rs.length := Nat.pow_le_pow_right (by decide) (by omega)
        have q4 : gn rs k &&& S ≤ S := Nat.and_le_right
        go_wp2_with fail
        cases hb : S.testBit k
        · have hb' : hasN (S : Int) k = false := by rw [hasN_nat]; exact hb
          have HQ : Hid (cliqueBad rs S k = false) := by show cliqueBad rs S k = false; unfold cliqueBad; rw [hb]; rfl
          clear hb q1 q2 q4
          refine wp_region_later m rfl (by kernel_rfl) (by kernel_rfl) ?_
          repeat (go_big_quiet_step (fail))
          refine wpQuiet_nil ?_
          rintro _ ⟨m, rfl⟩
          go_wp2_with fail
          go_roundw
          case rel => exact ⟨⟨m, rfl⟩, k + 1, by omega, by go_num, all_succ HhP.out HQ.out⟩
          case measure => simp [intOf]; omega
        · have hb' : hasN (S : Int) k = true := by rw [hasN_nat]; exact hb
          have hle := pow_le_of_testBit hb
          have HQ : Hid (∀ b, (((gn rs k &&& S : Nat) : Int) != (S : Int) - ((2 ^ k : Nat) : Int)) = b → cliqueBad rs S k = b) := fun b h => by
            unfold cliqueBad; rw [hb, Bool.true_and, ← h, Bool.eq_iff_iff, decide_eq_true_eq, bne_iff_ne]
            constructor <;> intro h1 h2 <;> apply h1 <;> omega
          clear hb
          generalize gn rs k &&& S = A at *
          generalize 2 ^ k = C at *
          cases hc : ((A : Int) != (S : Int) - (C : Int))
          all_goals
            refine wp_region_later m rfl (by kernel_rfl) (by kernel_rfl) ?_
            repeat (go_big_quiet_step (fail))
            refine wpQuiet_nil ?_
            rintro _ ⟨m, rfl⟩
            go_wp2_with fail
          · go_roundw
            case rel => exact ⟨⟨m, rfl⟩, k + 1, by omega, by go_num, all_succ HhP.out (HQ.out _ hc)⟩
            case measure => simp [intOf]; omega
          · go_ret
            exact ⟨retB (by rw [HE.out, cliqueN_bad hlt (HQ.out _ hc)]), below_later HhB.out m⟩
      · go_wp2_with fail
        go_ret
        exact ⟨retB (by rw [HE.out, cliqueN_ok (fun v h => HhP.out v (by omega))]), below_later HhB.out m⟩

set_option maxHeartbeats 1000000 in
theorem implisClique_any (rs : List Int) (S : Nat) (ro : Option Addr) (rc : Nat) (w : World) (hr : IntsAt w ro rs) (g : VG rs) (hS : S < 2 ^ rs.length) :
    Calls Tryz.prog 165 #[.agg #[.int .i64 rs.length, .slice ro rs.length rc], .int .i64 S] w fun e w' => e = .returned (.bool (cliqueN rs S)) ∧ Below w.heap.size w w' := by
  have hg1 := g.pos
  have hg2 := g.le
  have hp := g.pow.1
  have hc7 := cnt_le S
  go_enter Tryz.func165, Tryz.ntmps165
  go_wp2_with fail
  generalize hW : w.alloc _ = W1
  obtain ⟨hB, -, k0⟩ := alloc1 hW
  replace hr := hr.below hB
  have hb0 := k0.lt
  have hc0 := k0.cell 0
  have hc1 := k0.cell 1
  simp at hc0 hc1
  clear hW k0
  have HhB := Lib.hid hB
  clear hB
  obtain ⟨m, hm0⟩ : ∃ m : Later W1, m.w = W1 := ⟨Later.refl _, rfl⟩
  refine (fun h => hm0 ▸ h) ?_
  clear hm0
  refine (implListN_any _ (by omega) _).mono ?_
  rintro e w2 ⟨lo, lc, rfl, hB2, hL⟩
  obtain ⟨m, rfl⟩ : ∃ m2 : Later W1, m2.w = w2 := ⟨m.on hB2, rfl⟩
  clear hB2 hc0
  replace hr := hr.later m
  replace hc1 : m.w.cell? _ = _ := (m.cell _ _ hb0).trans hc1
  replace hb0 := Nat.lt_of_lt_of_le hb0 m.size
  replace HhB := Lib.hid (below_later HhB.out m)
  generalize m.w = W2 at *
  clear m
  obtain ⟨m, hm0⟩ : ∃ m : Later W2, m.w = W2 := ⟨Later.refl _, rfl⟩
  refine (fun h => hm0 ▸ h) ?_
  clear hm0
  go_wp2_with fail
  go_loopw [10] (fun i wr => (∃ m : Later W2, wr = m.w) ∧ ∃ k : Nat, k ≤ cnt S ∧ i = .int .i64 k ∧ ∀ j, j < k → cliqueBad rs S (eln (els S) j) = false) (fun i _ => cnt S - (intOf i).toNat)
  case atStart => exact ⟨⟨m, rfl⟩, 0, by omega, rfl, fun j h => by omega⟩
  case round =>
    obtain ⟨⟨m, rfl⟩, k, hk, rfl, hP⟩ := hrel
    have HhP := Lib.hid hP
    clear hP
    by_cases hlt : k < cnt S
    · obtain ⟨rb, rofs, rfl, hrb, hrc⟩ := hr.graph g
      obtain ⟨lb, lofs, rfl, hlb, hlc⟩ := hL (by unfold cnt at hlt; omega)
      obtain ⟨q2, q3⟩ := els_at hS hg2 hlt
      have hv := hlc k hlt
      have hle := pow_le_of_testBit q3
      have hl := g.lt _ q2
      have HQ : Hid (∀ b, (((nDiff S (gn rs (eln (els S) k)) : Nat) : Int) != ((2 ^ eln (els S) k : Nat) : Int)) = b → cliqueBad rs S (eln (els S) k) = b) := fun b h => by
        have e := nDiff_add (a := S) (b := gn rs (eln (els S) k)) (by omega)
        unfold cliqueBad; rw [q3, Bool.true_and, ← h, Bool.eq_iff_iff, decide_eq_true_eq, bne_iff_ne]
        constructor <;> intro h1 h2 <;> apply h1 <;> omega
      generalize hev : eln (els S) k = v at *
      have Hhev := Lib.hid hev
      clear hev
      have p1 : pwN v = ((2 ^ v : Nat) : Int) := pwN_small _ (by omega)
      have p2 : bits .andNot .i64 (S : Int) (gn rs v : Int) = ((nDiff S (gn rs v) : Nat) : Int) := bits_andNot_nat _ _ (by omega)
      clear hlc q3
      generalize nDiff S (gn rs v) = A at *
      generalize 2 ^ v = C at *
      go_wp2_with fail
      cases hc : ((A : Int) != (C : Int))
      all_goals
        refine wp_region_later m rfl (by kernel_rfl) (by kernel_rfl) ?_
        repeat (go_big_quiet_step (fail))
        refine wpQuiet_nil ?_
        rintro _ ⟨m, rfl⟩
        go_wp2_with fail
      · go_roundw
        case rel => exact ⟨⟨m, rfl⟩, k + 1, by omega, by go_num, all_succ HhP.out (by rw [Hhev.out]; exact HQ.out _ hc)⟩
        case measure => simp [intOf]; omega
      · go_ret
        exact ⟨retB (by rw [cliqueN_bad q2 (HQ.out _ hc)]), below_later HhB.out m⟩
    · go_wp2_with fail
      go_ret
      refine ⟨retB ?_, below_later HhB.out m⟩
      rw [cliqueN_ok]
      intro v hv
      cases hb : S.testBit v with
      | false => unfold cliqueBad; rw [hb]; rfl
      | true =>
        obtain ⟨j, hj, he⟩ := List.mem_iff_getElem.1 ((mem_els hS hg2).2 hb)
        have := HhP.out j (by unfold cnt at hlt; omega)
        have e2 : eln (els S) j = v := by simp [eln, hj, he]
        rwa [e2] at this

set_option maxHeartbeats 1000000 in
theorem implIsClique_any (n : Int) (rs : List Int) (s : Int) (ro : Option Addr) (rc : Nat) (w : World) (hr : IntsAt w ro rs) (hrl : rs.length ≤ 1048576) :
    Calls Tryz.prog 150 #[.agg #[.int .i64 n, .slice ro rs.length rc], .int .i64 s] w fun e w' => e = .returned (.bool (cliqueB n rs s)) ∧ Below w.heap.size w w' := by
  go_enter Tryz.func150, Tryz.ntmps150
  go_wp2_with fail
  generalize hW : w.alloc _ = W1
  obtain ⟨hB, -, k0⟩ := alloc1 hW
  replace hr := hr.below hB
  have hb0 := k0.lt
  have hc0 := k0.cell 0
  have hc1 := k0.cell 1
  simp at hc0 hc1
  clear hW k0
  have HhB := Lib.hid hB
  clear hB
  obtain ⟨m, hm0⟩ : ∃ m : Later W1, m.w = W1 := ⟨Later.refl _, rfl⟩
  refine (fun h => hm0 ▸ h) ?_
  clear hm0
  cases hv : isSetB n rs s
  · have HE := Lib.hid (cliqueB_no hv)
    go_wp2_with (first | (go_at_call 105; refine (Calls.later m (implIsSet_any _ _ _ _ _ _ (hr.later m) hrl)).mono ?_; rintro e w' ⟨rfl, m, rfl⟩))
    go_ret
    exact ⟨retB (by rw [HE.out]), below_later HhB.out m⟩
  · obtain ⟨rfl, g, S, rfl, hS⟩ := isSetB_true hv
    have HE := Lib.hid (cliqueB_nat hv)
    go_wp2_with (first | (go_at_call 105; refine (Calls.later m (implIsSet_any _ _ _ _ _ _ (hr.later m) hrl)).mono ?_; rintro e w' ⟨rfl, m, rfl⟩) | (go_at_call 165; refine (Calls.later m (implisClique_any _ _ _ _ _ (hr.later m) g hS)).mono ?_; rintro e w' ⟨rfl, m, rfl⟩))
    go_ret
    exact ⟨retB (by rw [HE.out]), below_later HhB.out m⟩

/-! ### IsCliqueCover -/
end Go.Proofs.YtjikmjhpmkakoaaGreatDoor

namespace Go.Proofs.YtjikmjhpmkakoaaGreatDoor
open Go.RowKit

/-! ### IsOrder -/
def orderB (n : Int) (rs l : List Int) : Bool := vertsB n rs l && ((l.length : Int) == n)
theorem orderB_of {n : Int} {rs l : List Int} (h : vertsB n rs l = true) : orderB n rs l = ((l.length : Int) == n) := by unfold orderB; rw [h]; rfl
theorem orderB_true {n : Int} {rs l : List Int} (h : orderB n rs l = true) : vertsB n rs l = true ∧ n = rs.length ∧ VG rs ∧ l.length = rs.length := by
  unfold orderB at h
  simp only [Bool.and_eq_true, beq_iff_eq] at h
  obtain ⟨hn, g⟩ := VG.of (vertsB_true.1 h.1).1
  exact ⟨h.1, hn, g, by omega⟩



/-! ### The front of a set: its vertices with an edge out of it -/
/-! ### CutOf -/
end Go.Proofs.YtjikmjhpmkakoaaGreatDoor

namespace Go.Proofs.YtjikmjhpmkakoaaGreatDoor
open Go.RowKit

/-- The edges from i to the c vertices behind i. -/
def edgesIn (rs : List Int) (i : Nat) : Nat → List (Nat × Nat)
  | 0 => []
  | c + 1 => edgesIn rs i c ++ (if (gn rs i).testBit (i + 1 + c) = true then [(i, i + 1 + c)] else [])
def edgesTo (rs : List Int) : Nat → List (Nat × Nat)
  | 0 => []
  | i + 1 => edgesTo rs i ++ edgesIn rs i (rs.length - (i + 1))
theorem edgesIn_len (rs : List Int) (i : Nat) : ∀ c, (edgesIn rs i c).length ≤ c
  | 0 => by simp [edgesIn]
  | c + 1 => by
    have := edgesIn_len rs i c
    unfold edgesIn
    rw [List.length_append]
    split <;> simp <;> omega
theorem edgesTo_len (rs : List Int) : ∀ i, (edgesTo rs i).length ≤ i * rs.length
  | 0 => by simp [edgesTo]
  | i + 1 => by
    have h1 := edgesTo_len rs i
    have h2 := edgesIn_len rs i (rs.length - (i + 1))
    unfold edgesTo
    rw [List.length_append, Nat.succ_mul]
    omega

/-- The slices xs read as the pairs es. -/
def ValsOf (w : World) (xs : List Value) (es : List (Nat × Nat)) : Prop :=
  xs.length = es.length ∧ ∀ (k : Nat) (e : Nat × Nat), es[k]? = some e → ∃ g, xs[k]? = some (.slice (some ⟨g, 0, none⟩) 2 2) ∧ w.heap[g]? = some (.cells #[.int .i64 e.1, .int .i64 e.2] 3)
theorem ValsOf.nil (w : World) : ValsOf w [] [] := ⟨rfl, fun k e h => by simp at h⟩
theorem ValsOf.below {w w' : World} {xs : List Value} {es : List (Nat × Nat)} (h : ValsOf w xs es) (hb : Below w.heap.size w w') : ValsOf w' xs es :=
  ⟨h.1, fun k e he => by
    obtain ⟨g, h1, h2⟩ := h.2 k e he
    exact ⟨g, h1, (hb.block g (Array.getElem?_eq_some_iff.1 h2).1).trans h2⟩⟩
theorem ValsOf.grown {w w' : World} {base : Nat} {v : Value} {zs xs : List Value} {es : List (Nat × Nat)} (h : ValsOf w xs es) (ho : OwnV w base v zs) (hg : w.grownBy w' v.ownBlock) : ValsOf w' xs es :=
  ⟨h.1, fun k e he => by
    obtain ⟨g, h1, h2⟩ := h.2 k e he
    refine ⟨g, h1, (hg.block g (Array.getElem?_eq_some_iff.1 h2).1 ?_).trans h2⟩
    intro e
    obtain ⟨-, ⟨h1, -⟩ | ⟨g2, cp, cur, hv, -, hh, -⟩⟩ := ho
    · rw [h1] at e; cases e
    · rw [hv] at e
      simp only [Value.ownBlock, Option.some.injEq] at e
      subst e
      rw [h2] at hh
      simp at hh⟩
theorem ValsOf.push {w : World} {xs : List Value} {es : List (Nat × Nat)} {g a b : Nat} (h : ValsOf w xs es) (hg : w.heap[g]? = some (.cells #[.int .i64 a, .int .i64 b] 3)) :
    ValsOf w (xs ++ [.slice (some ⟨g, 0, none⟩) 2 2]) (es ++ [(a, b)]) := by
  refine ⟨by simp [h.1], fun k e he => ?_⟩
  by_cases hk : k < es.length
  · rw [List.getElem?_append_left hk] at he
    rw [List.getElem?_append_left (by rw [h.1]; exact hk)]
    exact h.2 k e he
  · rw [List.getElem?_append_right (by omega)] at he
    have hke : k = es.length := by
      obtain ⟨hl, -⟩ := List.getElem?_eq_some_iff.1 he
      simp at hl; omega
    subst hke
    simp at he
    subst he
    refine ⟨g, ?_, hg⟩
    rw [← h.1]; simp

theorem OwnV.mono {w : World} {base base' : Nat} {v : Value} {xs : List Value} (h : OwnV w base v xs) (hb : base' ≤ base) : OwnV w base' v xs := by
  obtain ⟨h0, h1 | ⟨g, cap, cur, hv, hg, r⟩⟩ := h
  · exact ⟨h0, .inl h1⟩
  · exact ⟨h0, .inr ⟨g, cap, cur, hv, Nat.le_trans hb hg, r⟩⟩

set_option maxRecDepth 100000 in
set_option maxHeartbeats 2000000 in
theorem implEdgesOf_any (rs : List Int) (ro : Option Addr) (rc : Nat) (hv : isGraphB rs.length rs = true) (w : World) (hr : IntsAt w ro rs) :
    Calls Tryz.prog 151 #[.agg #[.int .i64 rs.length, .slice ro rs.length rc]] w fun e w' => ∃ ao cap xs, e = .returned (.slice ao xs.length cap) ∧ Below w.heap.size w w' ∧ OwnV w' w.heap.size (.slice ao xs.length cap) xs ∧ ValsOf w' xs (edgesTo rs rs.length) := by
  have g := (VG.of hv).2
  have hg1 := g.pos
  have hg2 := g.le
  go_enter Tryz.func151, Tryz.ntmps151
  go_wp2_with fail
  generalize hW : w.alloc _ = W1
  have hsz : W1.heap.size = w.heap.size + 1 := by rw [← hW]; simp
  obtain ⟨hB, -, k0⟩ := alloc1 hW
  replace hr := hr.below hB
  have hb0 := k0.lt
  have hc0 := k0.cell 0
  have hc1 := k0.cell 1
  simp at hc0 hc1
  clear hW k0
  have HhB := Lib.hid hB
  clear hB
  obtain ⟨rb, rofs, rfl, hrb, hrc⟩ := hr.graph g
  have HRC := Lib.hid hrc
  clear hrc
  go_wp2_with fail
  generalize hW2 : W1.alloc _ = W2
  obtain ⟨hB2, -, -⟩ := alloc1 hW2
  have hO : OwnV W2 W1.heap.size (.slice (some ⟨W1.heap.size, 0, none⟩) 0 0) [] := by rw [← hW2]; exact OwnV.empty W1
  obtain ⟨m, rfl⟩ : ∃ m2 : Later W1, m2.w = W2 := ⟨⟨W2, hB2⟩, rfl⟩
  have hadr : Value.slice (some ⟨W1.heap.size, 0, none⟩) 0 0 = .slice (some ⟨w.heap.size + 1, 0, none⟩) 0 0 := by rw [hsz]
  rw [hadr] at hO
  clear hsz hadr
  clear hB2 hW2
  refine (implIsGraph_any _ _ _ _ _ (hr.later m) (by omega)).mono ?_
  rw [hv]
  rintro e w' ⟨rfl, hB3⟩
  replace hO := hO.below hB3
  obtain ⟨m, rfl⟩ : ∃ m2 : Later W1, m2.w = w' := ⟨m.on hB3, rfl⟩
  clear hB3
  go_wp2_with fail
  go_loopw [3, 15] (fun o i wr => (∃ m : Later W1, wr = m.w) ∧ ∃ k : Nat, k ≤ rs.length ∧ i = .int .i64 k ∧ ∃ ao cap xs, o = .slice ao xs.length cap ∧ OwnV wr W1.heap.size (.slice ao xs.length cap) xs ∧ ValsOf wr xs (edgesTo rs k)) (fun _ i _ => rs.length - (intOf i).toNat)
  case atStart => exact ⟨⟨m, rfl⟩, 0, by omega, rfl, _, _, [], rfl, hO, ValsOf.nil _⟩
  case round =>
    obtain ⟨⟨m, rfl⟩, k, hk, rfl, ao, cap, xs, rfl, hO, hV⟩ := hrel
    by_cases hlt : k < rs.length
    · have hcr := HRC.out k hlt
      have hg128 := g.lt128 hlt
      have hEl := edgesTo_len rs k
      have hkk : k * rs.length ≤ 49 := Nat.le_trans (Nat.mul_le_mul hk (Nat.le_refl _)) (Nat.mul_le_mul hg2 hg2)
      have HEl := Lib.hid (Nat.le_trans hEl hkk)
      clear hEl hkk
      have HES : Hid (edgesTo rs (k + 1) = edgesTo rs k ++ edgesIn rs k (rs.length - (k + 1))) := rfl
      generalize edgesTo rs k = E at *
      have HhO := Lib.hid hO
      clear hO
      have HhV := Lib.hid hV
      clear hV
      go_wp2_with fail
      go_loopw [3, 6] (fun o i wr => (∃ m : Later W1, wr = m.w) ∧ ∃ c : Nat, k + 1 + c ≤ rs.length ∧ i = .int .i64 (k + 1 + c : Nat) ∧ ∃ ao cap xs, o = .slice ao xs.length cap ∧ OwnV wr W1.heap.size (.slice ao xs.length cap) xs ∧ ValsOf wr xs (E ++ edgesIn rs k c)) (fun _ i _ => rs.length - (intOf i).toNat)
      case atStart => exact ⟨⟨m, rfl⟩, 0, by omega, by go_num, ao, cap, xs, rfl, HhO.out, by show ValsOf _ _ (E ++ []); rw [List.append_nil]; exact HhV.out⟩
      case round =>
        obtain ⟨⟨m, rfl⟩, c, hc, rfl, ao, cap, xs, rfl, hO, hV⟩ := hrel
        have hEl := edgesIn_len rs k c
        have hxl := hV.1
        rw [List.length_append] at hxl
        have hx56 : xs.length ≤ 1048576 := by have := HEl.out; omega
        clear hxl hEl
        have hms := m.size
        have HhO := Lib.hid hO
        clear hO
        have HhV := Lib.hid hV
        clear hV
        by_cases hct : k + 1 + c < rs.length
        · have hH := fun w : World => has_any (gn rs k : Int) ((k + 1 + c : Nat) : Int) (by omega) (by omega) w
          have HB : hasN (gn rs k : Int) ((k + 1 + c : Nat) : Int).toNat = (gn rs k).testBit (k + 1 + c) := hasN_nat _ _
          rw [HB] at hH
          clear HB
          have HI : Hid (E ++ edgesIn rs k (c + 1) = (E ++ edgesIn rs k c) ++ (if (gn rs k).testBit (k + 1 + c) = true then [(k, k + 1 + c)] else [])) := Lib.hid (by rw [List.append_assoc]; rfl)
          have hq : ((k + 1 + c : Nat) : Int) + 1 = ((k + 1 + (c + 1) : Nat) : Int) := by omega
          cases hb : (gn rs k).testBit (k + 1 + c)
          · rw [hb] at hH HI
            go_wp2_with (first | (go_at_call 60; refine (hH _).mono ?_; rintro e w' ⟨rfl, rfl⟩))
            go_roundw
            case rel => exact ⟨⟨m, rfl⟩, c + 1, by omega, by go_num, ao, cap, xs, rfl, HhO.out, by rw [HI.out]; simpa using HhV.out⟩
            case measure => simp [intOf]; omega
          · rw [hb] at hH HI
            go_wp2_with (first | (go_at_call 60; refine (hH _).mono ?_; rintro e w' ⟨rfl, rfl⟩) | (at_builtin; go_must (refine wpList_append_row rfl _ _ rfl W1.heap.size (.slice ao xs.length cap) xs (.slice (some ⟨m.w.heap.size, 0, none⟩) 2 2) rfl rfl (HhO.out.alloc _) (by show Value.slice (some ⟨m.w.heap.size + 1, 0, none⟩) 1 1 = _; simp) (by simp; omega) hx56 ?_); intro ao1 cap1 w1 hown1 hB1 hG1))
            have hC : (m.w.alloc (.cells #[.int .i64 k, .int .i64 ((k : Int) + 1 + c)] 3)).heap[m.w.heap.size]? = some (.cells #[.int .i64 k, .int .i64 ((k + 1 + c : Nat) : Int)] 3) := by rw [heap_alloc_new]; simp
            have hV1 := ((HhV.out.below ((Below.refl _ _).alloc (Nat.le_refl _) _)).push hC).below ((Below.refl _ _).alloc (Nat.le_refl _) (.cells #[.slice (some ⟨m.w.heap.size, 0, none⟩) 2 2] 24))
            have hV2 := hV1.grown ((HhO.out.alloc _).alloc _) hG1
            have hBm : Below W1.heap.size m.w w1 := ((Below.refl _ _).alloc hms _).trans hB1
            obtain ⟨m, rfl⟩ : ∃ m2 : Later W1, m2.w = w1 := ⟨⟨w1, m.below.trans hBm⟩, rfl⟩
            go_roundw
            case rel => exact ⟨⟨m, rfl⟩, c + 1, by omega, by go_num, ao1, cap1, xs ++ [_], by rw [List.length_append]; rfl, by rw [List.length_append]; exact hown1, by rw [HI.out]; exact hV2⟩
            case measure => simp [intOf]; omega
        · go_wp2_with fail
          go_roundw
          case rel => exact ⟨⟨m, rfl⟩, k + 1, by omega, by go_num, ao, cap, xs, rfl, HhO.out, by rw [HES.out, show rs.length - (k + 1) = c by omega]; exact HhV.out⟩
          case measure => simp [intOf]; omega
    · obtain rfl : k = rs.length := by omega
      have HhO := Lib.hid hO
      clear hO
      have HhV := Lib.hid hV
      clear hV
      go_wp2_with fail
      go_ret
      exact ⟨ao, cap, xs, rfl, below_later HhB.out m, HhO.out.mono (Nat.le_of_lt hb0), HhV.out⟩

end Go.Proofs.YtjikmjhpmkakoaaGreatDoor

namespace Go.Proofs.YtjikmjhpmkakoaaGreatDoor
open Go.RowKit

/-- A vertex of a list of different vertices, as a natural number. -/
theorem vert_at {n : Int} {rs l : List Int} (h : vertsB n rs l = true) {j : Nat} (hj : j < l.length) : ∃ v : Nat, gi l j = v ∧ v < rs.length := by
  obtain ⟨a, b⟩ := ((vertsB_true.1 h).2 j hj).1
  exact ⟨(gi l j).toNat, by omega, by omega⟩



end Go.Proofs.YtjikmjhpmkakoaaGreatDoor

namespace Go.Proofs.YtjikmjhpmkakoaaGreatDoor
open Go.RowKit

end Go.Proofs.YtjikmjhpmkakoaaGreatDoor
