/-
  Lists of integers that a call itself makes and appends to; the walks of ListOf and CountSet on both sides. No conditions.
  Sets of vertices of a graph that is right; the walks of IsSet, all, AroundSet, neighbors on both sides. The conditions: at most 2^20 rows; where it is said, the graph is right and the set is one of it.
-/
import Derived.Test.YtfkehmpckhmkbaaPkLawWidths01
import Derived.Test.YtfkehmpckhmkbaaPkLawWidths02
namespace Go.Proofs.Ytfkehmpckhmkbaa
open Go.RowKit

/-- The slice value v owns the integers xs in a row of the call's own, from block 'base' on. -/
def OwnL (w : World) (base : Nat) (v : Value) (xs : List Int) : Prop := w.ownsRow base 3 1 v xs.length (xs.map (Value.int .i64))
theorem OwnL.ints {w : World} {base n cap : Nat} {ao : Option Addr} {xs : List Int} (h : OwnL w base (.slice ao n cap) xs) : IntsAt w ao xs := fun h0 => by
  obtain ⟨hl, h1 | ⟨g, cp, cur, hv, hg, hb, hn, hm, hsz, ht⟩⟩ := h
  · omega
  · simp only [Value.slice.injEq] at hv
    obtain ⟨rfl, -, -⟩ := hv
    refine ⟨g, 0, rfl, (Array.getElem?_eq_some_iff.1 hb).1, fun k hk => ?_⟩
    have : cur[k]? = some (.int .i64 (gi xs k)) := by
      have e : (cur.toList.take (xs.length * 1))[k]? = (xs.map (Value.int .i64))[k]? := by rw [ht]
      rw [List.getElem?_take, if_pos (by omega), Array.getElem?_toList] at e
      rw [e]; simp [gi, hk]
    rw [Nat.zero_add]
    simp only [World.cell?, hb]
    simpa using this
theorem OwnL.form {w : World} {base : Nat} {v : Value} {xs : List Int} (h : OwnL w base v xs) : ∃ ao cap, v = .slice ao xs.length cap := by
  obtain ⟨hl, ⟨h1, h2⟩ | ⟨g, cp, cur, hv, -⟩⟩ := h
  · exact ⟨none, 0, by rw [h1, h2]⟩
  · exact ⟨_, _, hv⟩
theorem OwnL.alloc {w : World} {base : Nat} {v : Value} {xs : List Int} (h : OwnL w base v xs) (o : Obj) : OwnL (w.alloc o) base v xs := World.ownsRow.alloc h o
theorem OwnL.mono {w : World} {base base' : Nat} {v : Value} {xs : List Int} (h : OwnL w base v xs) (hb : base' ≤ base) : OwnL w base' v xs := by
  obtain ⟨h0, h1 | ⟨g, cap, cur, hv, hg, r⟩⟩ := h
  · exact ⟨h0, .inl h1⟩
  · exact ⟨h0, .inr ⟨g, cap, cur, hv, Nat.le_trans hb hg, r⟩⟩
theorem OwnL.below {w w' : World} {base : Nat} {v : Value} {xs : List Int} (h : OwnL w base v xs) (hb : Below w.heap.size w w') : OwnL w' base v xs := by
  obtain ⟨h0, h1 | ⟨g, cap, cur, hv, hg, hh, r⟩⟩ := h
  · exact ⟨h0, .inl h1⟩
  · exact ⟨h0, .inr ⟨g, cap, cur, hv, hg, by rw [hb.block g (Array.getElem?_eq_some_iff.1 hh).1]; exact hh, r⟩⟩
theorem OwnL.nil (w : World) (base : Nat) : OwnL w base (.slice none 0 0) [] := World.ownsRow_nil _ _ _ _
/-- '[]int{}' -/
theorem OwnL.empty (w : World) : OwnL (w.alloc (.cells #[] 3)) w.heap.size (.slice (some ⟨w.heap.size, 0, none⟩) 0 0) [] :=
  ⟨by simp, .inr ⟨w.heap.size, 0, #[], rfl, Nat.le_refl _, by show (w.heap.push _)[w.heap.size]? = _; simp, Nat.le_refl _, by simp, by simp, by simp⟩⟩

/-- 'out = append(out, y)', out the call's own. -/
theorem wpList_append_int {ops : Array Oper} {rest : List Oper} {o : Oper} {a : Act} {Q : Exit → Act → World → Prop} {w : World} (hgd : o.guard = none) (s x : Operand)
    (ho : o.op = .call { callee := .builtin .append, args := #[s, x], argTypes := #[24, 24] })
    (base : Nat) (v : Value) (xs : List Int) (y : Int) (hs : a.eval s = v) (hown : OwnL w base v xs) (hx : a.eval x = .slice (some ⟨w.heap.size, 0, none⟩) 1 1) (hbase : base ≤ w.heap.size) (hlen : xs.length ≤ 1048576)
    (h : ∀ ao cap w', OwnL w' base (.slice ao (xs.length + 1) cap) (xs ++ [y]) → Below base w w' → wpList Try.prog ops Q rest (a.put o.dst (.slice ao (xs.length + 1) cap)) w') :
    wpList Try.prog ops Q (o :: rest) a (w.alloc (.cells #[.int .i64 y] 3)) := by
  obtain ⟨i0, hi, hz0, hz1, hz2⟩ := info_parts info_int
  refine wpList_append_own (w.alloc (.cells #[.int .i64 y] 3)) hgd s x 24 ho base 3 i0 (.int .i64 0) 1 8 Try.underlying24 hi hz0 hz1 hz2 rfl (by decide) v xs.length (xs.map (Value.int .i64)) hs (hown.alloc _)
    ⟨w.heap.size, 0, none⟩ 1 1 [.int .i64 y] hx rfl ?_ ?_ (by unfold maxLen; omega) (by omega) (by simp; omega) ?_
  · intro j u hj
    match j, hj with
    | 0, hj => simp at hj; subst hj; simp [Addr.add]
  · intro u hu; simp at hu; subst hu; rfl
  · intro v' w' h1 h2 _
    have h3 : OwnL w' base v' (xs ++ [y]) := by unfold OwnL; simpa using h1
    obtain ⟨ao, cap, rfl⟩ := h3.form
    have e : (xs ++ [y]).length = xs.length + 1 := by simp
    rw [e] at h3 ⊢
    refine h ao cap w' h3 ?_
    have hb : Below base w (w.alloc (.cells #[.int .i64 y] 3)) := (Below.refl _ _).alloc hbase _
    exact hb.grown h2 (by simp; omega) (fun k hk => (hown.lt k hk).1)

/-! ### ListOf -/
def listUpto (s : Int) (k : Nat) : List Int := ((List.range k).filter (fun v => hasN s v)).map Int.ofNat
theorem listUpto_yes {s : Int} {k : Nat} (h : hasN s k = true) : listUpto s (k + 1) = listUpto s k ++ [(k : Int)] := by
  unfold listUpto; rw [List.range_succ, List.filter_append]; simp [h]
theorem listUpto_no {s : Int} {k : Nat} (h : hasN s k = false) : listUpto s (k + 1) = listUpto s k := by
  unfold listUpto; rw [List.range_succ, List.filter_append]; simp [h]
theorem listUpto_len (s : Int) (k : Nat) : (listUpto s k).length ≤ k := by
  unfold listUpto; rw [List.length_map]; exact Nat.le_trans (List.length_filter_le _ _) (by simp)
def listOf (s : Int) : List Int := if 0 ≤ s ∧ s ≤ 127 then listUpto s 7 else []
theorem listOf_out {s : Int} (h : (decide (0 ≤ s) && decide (s ≤ 127)) = false) : listOf s = [] := by unfold listOf; rw [if_neg]; rintro ⟨a, b⟩; simp [a, b] at h
theorem listOf_in {s : Int} (h : (decide (0 ≤ s) && decide (s ≤ 127)) = true) : listOf s = listUpto s 7 := by unfold listOf; rw [if_pos]; simpa using h
theorem listOf_len (s : Int) : (listOf s).length ≤ 7 := by unfold listOf; split; exact listUpto_len s 7; simp

theorem l3Fine_any (s : Int) (w : World) : Calls Try.prog 92 #[.int .i64 s] w fun e w' => e = .returned (.bool (decide (0 ≤ s) && decide (s ≤ 127))) ∧ w = w' := by
  go_enter Try.func92, Try.ntmps92
  go_wp2_with (first | (go_at_call 37; refine (l1In_any _ _ _ _).mono ?_; rintro e w' ⟨rfl, rfl⟩))
  go_ret
  exact ⟨rfl, rfl⟩

/-- What a call says that hands back a list of its own. -/
def RetL (w : World) (xs : List Int) (e : Ending) (w' : World) : Prop := ∃ ao cap, e = .returned (.slice ao xs.length cap) ∧ Below w.heap.size w w' ∧ OwnL w' w.heap.size (.slice ao xs.length cap) xs

set_option maxHeartbeats 1000000 in
theorem specListOf_any (s : Int) (w : World) : Calls Try.prog 67 #[.int .i64 s] w (RetL w (listOf s)) := by
  go_enter Try.func67, Try.ntmps67
  go_wp2_with fail
  cases hv : (decide (0 ≤ s) && decide (s ≤ 127))
  · have HE := Lib.hid (listOf_out hv)
    go_loopw [3, 4] (fun o i wr => wr = w.alloc (.cells #[] 3) ∧ o = .slice (some ⟨w.heap.size, 0, none⟩) 0 0 ∧ i = .int .i64 0) (fun _ _ _ => 0)
    case atStart => exact ⟨rfl, rfl, rfl⟩
    case round =>
      obtain ⟨rfl, rfl, rfl⟩ := hrel
      go_wp2_with (first | (go_at_call 92; refine (l3Fine_any _ _).mono ?_; rintro e w' ⟨rfl, rfl⟩))
      go_ret
      exact ⟨some ⟨w.heap.size, 0, none⟩, 0, by rw [HE.out]; rfl, (Below.refl _ _).alloc (Nat.le_refl _) _, by rw [HE.out]; exact OwnL.empty w⟩
  · have HE := Lib.hid (listOf_in hv)
    go_loopw [3, 4] (fun o i wr => ∃ k : Nat, k ≤ 7 ∧ i = .int .i64 k ∧ ∃ ao cap, o = .slice ao (listUpto s k).length cap ∧ OwnL wr w.heap.size (.slice ao (listUpto s k).length cap) (listUpto s k) ∧ Below w.heap.size w wr) (fun _ i _ => 7 - (intOf i).toNat)
    case atStart => exact ⟨0, by omega, rfl, _, _, rfl, OwnL.empty w, (Below.refl _ _).alloc (Nat.le_refl _) _⟩
    case round =>
      obtain ⟨k, hk, rfl, ao, cap, rfl, hown, hB⟩ := hrel
      have hBs := hB.size
      have hl := listUpto_len s k
      have HB := Lib.hid hB
      have HO := Lib.hid hown
      clear hB hown
      by_cases hlt : k < 7
      · cases hb : hasN s k
        · have HU := Lib.hid (listUpto_no hb)
          go_wp2_with (first | (go_at_call 92; refine (l3Fine_any _ _).mono ?_; rintro e w' ⟨rfl, rfl⟩))
          go_roundw
          case rel => exact ⟨k + 1, by omega, by go_num, ao, cap, by rw [HU.out], by rw [HU.out]; exact HO.out, HB.out⟩
          case measure => simp [intOf]; omega
        · have HU := Lib.hid (listUpto_yes hb)
          go_wp2_with (first | (go_at_call 92; refine (l3Fine_any _ _).mono ?_; rintro e w' ⟨rfl, rfl⟩) | (at_builtin; go_must (refine wpList_append_int rfl _ _ rfl w.heap.size (.slice ao (listUpto s k).length cap) _ _ rfl HO.out rfl (by omega) (by omega) ?_); intro ao' cap' w1 hown1 hB1))
          go_roundw
          case rel => exact ⟨k + 1, by omega, by go_num, ao', cap', by rw [HU.out]; simp, by rw [HU.out]; simpa using hown1, HB.out.trans hB1⟩
          case measure => simp [intOf]; omega
      · go_wp2_with (first | (go_at_call 92; refine (l3Fine_any _ _).mono ?_; rintro e w' ⟨rfl, rfl⟩))
        go_ret
        obtain rfl : k = 7 := by omega
        exact ⟨ao, cap, by rw [HE.out]; rfl, HB.out, by rw [HE.out]; exact HO.out⟩

set_option maxHeartbeats 1000000 in
theorem implListOf_any (s : Int) (w : World) : Calls Try.prog 46 #[.int .i64 s] w (RetL w (listOf s)) := by
  go_enter Try.func46, Try.ntmps46
  go_wp2_with fail
  cases hv : (decide (0 ≤ s) && decide (s ≤ 127))
  · have HE := Lib.hid (listOf_out hv)
    go_wp2_with (first | (go_at_call 80; refine (within_any _ _ _ _).mono ?_; rintro e w' ⟨rfl, rfl⟩))
    go_ret
    exact ⟨some ⟨w.heap.size, 0, none⟩, 0, by rw [HE.out]; rfl, (Below.refl _ _).alloc (Nat.le_refl _) _, by rw [HE.out]; exact OwnL.empty w⟩
  · have HE := Lib.hid (listOf_in hv)
    go_wp2_with (first | (go_at_call 80; refine (within_any _ _ _ _).mono ?_; rintro e w' ⟨rfl, rfl⟩))
    go_loopw [3, 10] (fun o i wr => ∃ k : Nat, k ≤ 7 ∧ i = .int .i64 k ∧ ∃ ao cap, o = .slice ao (listUpto s k).length cap ∧ OwnL wr w.heap.size (.slice ao (listUpto s k).length cap) (listUpto s k) ∧ Below w.heap.size w wr) (fun _ i _ => 7 - (intOf i).toNat)
    case atStart => exact ⟨0, by omega, rfl, _, _, rfl, OwnL.empty w, (Below.refl _ _).alloc (Nat.le_refl _) _⟩
    case round =>
      obtain ⟨k, hk, rfl, ao, cap, rfl, hown, hB⟩ := hrel
      have hBs := hB.size
      have hl := listUpto_len s k
      have HB := Lib.hid hB
      have HO := Lib.hid hown
      clear hB hown
      by_cases hlt : k < 7
      · cases hb : hasN s k
        · have HU := Lib.hid (listUpto_no hb)
          go_wp2_with (first | (go_at_call 71; refine (has_any _ _ (by omega) (by omega) _).mono ?_; rintro e w' ⟨rfl, rfl⟩))
          go_roundw
          case rel => exact ⟨k + 1, by omega, by go_num, ao, cap, by rw [HU.out], by rw [HU.out]; exact HO.out, HB.out⟩
          case measure => simp [intOf]; omega
        · have HU := Lib.hid (listUpto_yes hb)
          go_wp2_with (first | (go_at_call 71; refine (has_any _ _ (by omega) (by omega) _).mono ?_; rintro e w' ⟨rfl, rfl⟩) | (at_builtin; go_must (refine wpList_append_int rfl _ _ rfl w.heap.size (.slice ao (listUpto s k).length cap) _ _ rfl HO.out rfl (by omega) (by omega) ?_); intro ao' cap' w1 hown1 hB1))
          go_roundw
          case rel => exact ⟨k + 1, by omega, by go_num, ao', cap', by rw [HU.out]; simp, by rw [HU.out]; simpa using hown1, HB.out.trans hB1⟩
          case measure => simp [intOf]; omega
      · go_wp2_with fail
        go_ret
        obtain rfl : k = 7 := by omega
        exact ⟨ao, cap, by rw [HE.out]; rfl, HB.out, by rw [HE.out]; exact HO.out⟩

theorem specCountSet_any (s : Int) (w : World) : Calls Try.prog 36 #[.int .i64 s] w fun e w' => e = .returned (.int .i64 (listOf s).length) ∧ Below w.heap.size w w' := by
  have hl := listOf_len s
  go_enter Try.func36, Try.ntmps36
  go_wp2_with fail
  refine (specListOf_any _ _).mono ?_
  rintro e w' ⟨ao, cap, rfl, hB, -⟩
  go_wp2_with fail
  go_ret
  exact ⟨rfl, hB⟩

theorem implCountSet_any (s : Int) (w : World) : Calls Try.prog 50 #[.int .i64 s] w fun e w' => e = .returned (.int .i64 (listOf s).length) ∧ Below w.heap.size w w' := by
  have hl := listOf_len s
  go_enter Try.func50, Try.ntmps50
  go_wp2_with fail
  refine (implListOf_any _ _).mono ?_
  rintro e w' ⟨ao, cap, rfl, hB, -⟩
  go_wp2_with fail
  go_ret
  exact ⟨rfl, hB⟩

end Go.Proofs.Ytfkehmpckhmkbaa

namespace Go.Proofs.Ytfkehmpckhmkbaa
open Go.RowKit

/-! ### Graphs that are right, in natural numbers -/
/-- Row v as a set of vertices. -/
def gn (rs : List Int) (v : Nat) : Nat := (gi rs v).toNat
structure VG (rs : List Int) : Prop where
  pos : 1 ≤ rs.length
  le : rs.length ≤ 7
  row : ∀ v, v < rs.length → gi rs v = (gn rs v : Int)
  lt : ∀ v, v < rs.length → gn rs v < 2 ^ rs.length
  irr : ∀ v, v < rs.length → (gn rs v).testBit v = false
  sym : ∀ v, v < rs.length → ∀ w, w < rs.length → (gn rs v).testBit w = (gn rs w).testBit v
theorem VG.of {n : Int} {rs : List Int} (h : isGraphB n rs = true) : n = rs.length ∧ VG rs := by
  obtain ⟨h0, h1, h2, h3, h4⟩ := isGraphB_true h
  have hr : ∀ v, v < rs.length → 0 ≤ gi rs v ∧ gi rs v < ((2 ^ rs.length : Nat) : Int) ∧ hasN (gi rs v) v = false := fun v hv => by
    have := h3 v hv
    unfold rowOk at this
    rw [pwN_small _ (by omega)] at this
    simpa [and_assoc] using this
  have hg : ∀ v, v < rs.length → gi rs v = (gn rs v : Int) := fun v hv => by unfold gn; have := (hr v hv).1; omega
  have hs : ∀ v, v < rs.length → ∀ w, w < v → (gn rs v).testBit w = (gn rs w).testBit v := fun v hv w hw => by
    have := h4 v hv w hw
    rwa [hg v hv, hg w (by omega), hasN_nat, hasN_nat] at this
  refine ⟨h0, h1, h2, hg, fun v hv => ?_, fun v hv => ?_, fun v hv w hw => ?_⟩
  · have := (hr v hv).2.1; rw [hg v hv] at this; omega
  · have := (hr v hv).2.2; rwa [hg v hv, hasN_nat] at this
  · rcases Nat.lt_trichotomy v w with h | h | h
    · exact (hs w hw v h).symm
    · rw [h]
    · exact hs v hv w h
theorem VG.lt128 {rs : List Int} (g : VG rs) {v : Nat} (hv : v < rs.length) : gn rs v < 128 :=
  Nat.lt_of_lt_of_le (g.lt v hv) (Nat.pow_le_pow_right (n := 2) (by decide) g.le)
theorem VG.pow {rs : List Int} (g : VG rs) : 2 ^ rs.length ≤ 128 ∧ 2 ≤ 2 ^ rs.length :=
  ⟨Nat.pow_le_pow_right (n := 2) (by decide) g.le, Nat.pow_le_pow_right (n := 2) (by decide) g.pos⟩
theorem IntsAt.graph {w : World} {ro : Option Addr} {rs : List Int} (h : IntsAt w ro rs) (g : VG rs) : ∃ b off, ro = some ⟨b, off, none⟩ ∧ b < w.heap.size ∧ ∀ k, k < rs.length → w.cell? ⟨b, off + k, none⟩ = some (.int .i64 (gn rs k : Int)) := by
  obtain ⟨b, off, h1, h2, h3⟩ := h g.pos
  exact ⟨b, off, h1, h2, fun k hk => by rw [← g.row k hk]; exact h3 k hk⟩

/-! ### The members of a set -/
def els (S : Nat) : List Nat := (List.range 7).filter S.testBit
def elsTo (S k : Nat) : List Nat := (List.range k).filter S.testBit
theorem elsTo_yes {S k : Nat} (h : S.testBit k = true) : elsTo S (k + 1) = elsTo S k ++ [k] := by unfold elsTo; rw [List.range_succ, List.filter_append]; simp [h]
theorem elsTo_no {S k : Nat} (h : S.testBit k = false) : elsTo S (k + 1) = elsTo S k := by unfold elsTo; rw [List.range_succ, List.filter_append]; simp [h]
theorem mem_elsTo {S k v : Nat} : v ∈ elsTo S k ↔ v < k ∧ S.testBit v = true := by simp [elsTo]
theorem testBit_ge {S N v : Nat} (h : S < 2 ^ N) (hv : N ≤ v) : S.testBit v = false := Nat.testBit_lt_two_pow (Nat.lt_of_lt_of_le h (Nat.pow_le_pow_right (by decide) hv))
theorem testBit_lt {S N v : Nat} (h : S < 2 ^ N) (hv : S.testBit v = true) : v < N := by
  rcases Nat.lt_or_ge v N with h' | h'
  · exact h'
  · rw [testBit_ge h h'] at hv; cases hv
theorem elsTo_more {S N k : Nat} (h : S < 2 ^ N) (hk : N ≤ k) : elsTo S k = elsTo S N := by
  obtain ⟨j, rfl⟩ : ∃ j, k = N + j := ⟨k - N, by omega⟩
  clear hk
  induction j with
  | zero => rfl
  | succ j ih => rw [← Nat.add_assoc, elsTo_no (testBit_ge h (by omega)), ih]
theorem els_eq {S N : Nat} (h : S < 2 ^ N) (hN : N ≤ 7) : els S = elsTo S N := by rw [← elsTo_more h hN]; rfl
theorem mem_els {S N v : Nat} (h : S < 2 ^ N) (hN : N ≤ 7) : v ∈ els S ↔ S.testBit v = true := by
  rw [els_eq h hN, mem_elsTo]
  exact ⟨fun h => h.2, fun h' => ⟨testBit_lt h h', h'⟩⟩
theorem listOf_nat {S : Nat} (h : S < 128) : listOf (S : Int) = (els S).map Int.ofNat := by
  unfold listOf
  rw [if_pos ⟨by omega, by omega⟩]
  unfold listUpto els
  congr 1
  apply List.filter_congr
  intro v _
  exact hasN_nat S v
theorem els_len (S : Nat) : (els S).length ≤ 7 := by unfold els; exact Nat.le_trans (List.length_filter_le _ _) (by simp)
/-- How many vertices a set has. -/
def cnt (S : Nat) : Nat := (els S).length
theorem listOf_length {S : Nat} (h : S < 128) : (listOf (S : Int)).length = cnt S := by rw [listOf_nat h, List.length_map]; rfl
theorem cnt_le (S : Nat) : cnt S ≤ 7 := els_len S
/-- Place k of a list of vertices. -/
def eln (l : List Nat) (k : Nat) : Nat := l.getD k 0
theorem gi_map (l : List Nat) (k : Nat) (hk : k < l.length) : gi (l.map Int.ofNat) k = (eln l k : Int) := by simp [gi, eln, hk]
theorem eln_mem {l : List Nat} {k : Nat} (hk : k < l.length) : eln l k ∈ l := by simp [eln, hk]
theorem take_eln {l : List Nat} {k : Nat} (hk : k < l.length) : l.take (k + 1) = l.take k ++ [eln l k] := by
  rw [List.take_succ_eq_append_getElem hk]; simp [eln, hk]

/-! ### Neighbours of a set -/
def orRows (rs : List Int) (l : List Nat) : Nat := l.foldl (fun a v => a ||| gn rs v) 0
theorem orRows_snoc (rs : List Int) (l : List Nat) (v : Nat) : orRows rs (l ++ [v]) = orRows rs l ||| gn rs v := by simp [orRows]
theorem foldOr_lt {rs : List Int} (g : VG rs) {l : List Nat} (h : ∀ v ∈ l, v < rs.length) : ∀ a, a < 2 ^ rs.length → l.foldl (fun a v => a ||| gn rs v) a < 2 ^ rs.length := by
  induction l with
  | nil => exact fun a ha => ha
  | cons v l ih => exact fun a ha => ih (fun u hu => h u (by simp [hu])) _ (Nat.or_lt_two_pow ha (g.lt v (h v (by simp))))
theorem orRows_lt {rs : List Int} (g : VG rs) {l : List Nat} (h : ∀ v ∈ l, v < rs.length) : orRows rs l < 2 ^ rs.length := foldOr_lt g h 0 (Nat.two_pow_pos _)
theorem testBit_foldOr (rs : List Int) (l : List Nat) (i : Nat) : ∀ a, (l.foldl (fun a v => a ||| gn rs v) a).testBit i = (a.testBit i || l.any fun v => (gn rs v).testBit i) := by
  induction l with
  | nil => simp
  | cons v l ih => intro a; rw [List.foldl_cons, ih, Nat.testBit_or]; simp [Bool.or_assoc]
theorem testBit_orRows (rs : List Int) (l : List Nat) (i : Nat) : (orRows rs l).testBit i = l.any fun v => (gn rs v).testBit i := by
  unfold orRows; rw [testBit_foldOr]; simp
def nbrs (rs : List Int) (S : Nat) : Nat := orRows rs (els S)
theorem nbrs_lt {rs : List Int} (g : VG rs) {S : Nat} (h : S < 2 ^ rs.length) : nbrs rs S < 2 ^ rs.length :=
  orRows_lt g fun _ hv => testBit_lt h ((mem_els h g.le).1 hv)
def around (rs : List Int) (S : Nat) : Nat := S ||| nbrs rs S
theorem around_lt {rs : List Int} (g : VG rs) {S : Nat} (h : S < 2 ^ rs.length) : around rs S < 2 ^ rs.length := Nat.or_lt_two_pow h (nbrs_lt g h)

/-! ### IsSet -/
def isSetB (n : Int) (rs : List Int) (s : Int) : Bool := isGraphB n rs && (decide (0 ≤ s) && decide (s < pwN rs.length))
theorem isSetB_true {n : Int} {rs : List Int} {s : Int} (h : isSetB n rs s = true) : n = rs.length ∧ VG rs ∧ ∃ S : Nat, s = S ∧ S < 2 ^ rs.length := by
  unfold isSetB at h
  simp only [Bool.and_eq_true, decide_eq_true_eq] at h
  obtain ⟨h1, h2, h3⟩ := h
  obtain ⟨h4, g⟩ := VG.of h1
  rw [pwN_small _ (by have := g.le; omega)] at h3
  obtain ⟨S, rfl⟩ := Int.eq_ofNat_of_zero_le h2
  exact ⟨h4, g, S, rfl, Int.ofNat_lt.1 h3⟩
theorem isSetB_mk {rs : List Int} {S : Nat} (h : isGraphB rs.length rs = true) (hS : S < 2 ^ rs.length) : isSetB rs.length rs S = true := by
  unfold isSetB
  rw [h, pwN_small _ (by have := (VG.of h).2.le; omega)]
  simp only [Bool.true_and, Bool.and_eq_true, decide_eq_true_eq]
  exact ⟨by omega, Int.ofNat_lt.2 hS⟩

set_option maxHeartbeats 1000000 in
theorem specIsSet_any (n : Int) (rs : List Int) (s : Int) (ro : Option Addr) (rc : Nat) (w : World) (hr : IntsAt w ro rs) (hrl : rs.length ≤ 1048576) :
    Calls Try.prog 66 #[.agg #[.int .i64 n, .slice ro rs.length rc], .int .i64 s] w fun e w' => e = .returned (.bool (isSetB n rs s)) ∧ Below w.heap.size w w' := by
  go_enter Try.func66, Try.ntmps66
  go_wp2_with fail
  generalize hW : w.alloc _ = W1
  obtain ⟨hB, -, k0⟩ := alloc1 hW
  replace hr := hr.below hB
  have hb0 := k0.lt
  have hc0 := k0.cell 0
  have hc1 := k0.cell 1
  simp at hc0 hc1
  clear hW k0
  have HhB := Lib.hid hB
  clear hB
  obtain ⟨m, hm0⟩ : ∃ m : Later W1, m.w = W1 := ⟨Later.refl _, rfl⟩
  refine (fun h => hm0 ▸ h) ?_
  clear hm0
  cases hv : isGraphB n rs
  · go_wp2_with (first | (go_at_call 12; refine (Calls.later m (specIsGraph_any _ _ _ _ _ (hr.later m) hrl)).mono ?_; rintro e w' ⟨rfl, m, rfl⟩))
    go_ret
    exact ⟨retB (by unfold isSetB; rw [hv]; rfl), below_later HhB.out m⟩
  · obtain ⟨rfl, g⟩ := VG.of hv
    have hg1 := g.pos
    have hg2 := g.le
    obtain ⟨hp1, hp2⟩ := pwN_pos rs.length hg2
    by_cases h0 : 0 ≤ s
    all_goals
      go_wp2_with (first | (go_at_call 12; refine (Calls.later m (specIsGraph_any _ _ _ _ _ (hr.later m) hrl)).mono ?_; rintro e w' ⟨rfl, m, rfl⟩))
      go_ret
    · exact ⟨retB (by unfold isSetB; rw [hv]; simp [h0]), below_later HhB.out m⟩
    · exact ⟨retB (by unfold isSetB; rw [hv, decide_eq_false (p := 0 ≤ s) (by omega)]; rfl), below_later HhB.out m⟩

theorem all_small {N : Nat} (h : N ≤ 7) : pwN N - 1 = ((2 ^ N - 1 : Nat) : Int) := by
  rw [pwN_small _ (by omega)]; have := Nat.two_pow_pos N; omega



/-! ### AroundSet, neighbors -/
set_option maxHeartbeats 1000000 in
theorem specAround_any (rs : List Int) (S : Nat) (ro : Option Addr) (rc : Nat) (w : World) (hr : IntsAt w ro rs) (hv : isGraphB rs.length rs = true) (hS : S < 2 ^ rs.length) :
    Calls Try.prog 34 #[.agg #[.int .i64 rs.length, .slice ro rs.length rc], .int .i64 S] w fun e w' => e = .returned (.int .i64 (around rs S)) ∧ Below w.heap.size w w' := by
  have g := (VG.of hv).2
  have hg1 := g.pos
  have hg2 := g.le
  have hp := g.pow.1
  have hs := isSetB_mk hv hS
  go_enter Try.func34, Try.ntmps34
  go_wp2_with fail
  generalize hW : w.alloc _ = W1
  obtain ⟨hB, -, k0⟩ := alloc1 hW
  replace hr := hr.below hB
  have hb0 := k0.lt
  have hc0 := k0.cell 0
  have hc1 := k0.cell 1
  simp at hc0 hc1
  clear hW k0
  have HhB := Lib.hid hB
  clear hB
  obtain ⟨m, hm0⟩ : ∃ m : Later W1, m.w = W1 := ⟨Later.refl _, rfl⟩
  refine (fun h => hm0 ▸ h) ?_
  clear hm0
  go_wp2_with (first | (go_at_call 66; refine (Calls.later m (specIsSet_any _ _ _ _ _ _ (hr.later m) (by omega))).mono ?_; rintro e w' ⟨rfl, m, rfl⟩))
  go_loopw [5, 6] (fun o i wr => (∃ m : Later W1, wr = m.w) ∧ ∃ k : Nat, k ≤ rs.length ∧ i = .int .i64 k ∧ o = .int .i64 (S ||| orRows rs (elsTo S k) : Nat)) (fun _ i _ => rs.length - (intOf i).toNat)
  case atStart => exact ⟨⟨m, rfl⟩, 0, by omega, rfl, by simp [elsTo, orRows]⟩
  case round =>
    obtain ⟨⟨m, rfl⟩, k, hk, rfl, rfl⟩ := hrel
    have hA : S ||| orRows rs (elsTo S k) < 2 ^ rs.length := Nat.or_lt_two_pow hS (orRows_lt g fun v hv => by have := (mem_elsTo.1 hv).1; omega)
    by_cases hlt : k < rs.length
    · obtain ⟨rb, rofs, rfl, hrb, hrc⟩ := hr.graph g
      cases hb : S.testBit k
      · have hb' : hasN (S : Int) k = false := by rw [hasN_nat]; exact hb
        have HU := Lib.hid (elsTo_no hb)
        clear hb
        go_wp2_with fail
        go_roundw
        case rel => exact ⟨⟨m, rfl⟩, k + 1, by omega, by go_num, by rw [HU.out]⟩
        case measure => simp [intOf]; omega
      · have hb' : hasN (S : Int) k = true := by rw [hasN_nat]; exact hb
        have HU := Lib.hid (elsTo_yes hb)
        have ho : bits .or .i64 ((S ||| orRows rs (elsTo S k) : Nat) : Int) (gn rs k : Int) = ((S ||| orRows rs (elsTo S (k + 1)) : Nat) : Int) := by
          have := g.lt k hlt
          rw [bits_or_nat _ _ (by omega) (by omega), HU.out, orRows_snoc, Nat.or_assoc]
        clear hb
        generalize S ||| orRows rs (elsTo S k) = A at *
        generalize hN : S ||| orRows rs (elsTo S (k + 1)) = A' at *
        have HhN := Lib.hid hN
        clear hN
        go_wp2_with fail
        go_roundw
        case rel => exact ⟨⟨m, rfl⟩, k + 1, by omega, by go_num, by rw [HhN.out]⟩
        case measure => simp [intOf]; omega
    · go_wp2_with fail
      go_ret
      obtain rfl : k = rs.length := by omega
      exact ⟨retI (by unfold around nbrs; rw [els_eq hS hg2]), below_later HhB.out m⟩

/-- The slice address ao reads as the vertices l. -/
def NatsAt (w : World) (ao : Option Addr) (l : List Nat) : Prop :=
  0 < l.length → ∃ b off, ao = some ⟨b, off, none⟩ ∧ b < w.heap.size ∧ ∀ k, k < l.length → w.cell? ⟨b, off + k, none⟩ = some (.int .i64 (eln l k : Int))
theorem NatsAt.below {w w' : World} {ao : Option Addr} {l : List Nat} (h : NatsAt w ao l) (hb : Below w.heap.size w w') : NatsAt w' ao l := fun h0 => by
  obtain ⟨b, off, rfl, hlt, hc⟩ := h h0
  exact ⟨b, off, rfl, Nat.lt_of_lt_of_le hlt hb.size, fun k hk => by rw [hb.cell (p := ⟨b, off + k, none⟩) hlt]; exact hc k hk⟩
theorem NatsAt.later {W : World} {ao : Option Addr} {l : List Nat} (h : NatsAt W ao l) (m : Later W) : NatsAt m.w ao l := h.below m.below
theorem IntsAt.nats {w : World} {ao : Option Addr} {l : List Nat} (h : IntsAt w ao (l.map Int.ofNat)) : NatsAt w ao l := fun h0 => by
  obtain ⟨b, off, h1, h2, h3⟩ := h (by simpa using h0)
  exact ⟨b, off, h1, h2, fun k hk => by rw [← gi_map l k hk]; exact h3 k (by simpa using hk)⟩

theorem implListN_any (S : Nat) (h : S < 128) (w : World) : Calls Try.prog 46 #[.int .i64 S] w fun e w' => ∃ ao cap, e = .returned (.slice ao (cnt S) cap) ∧ Below w.heap.size w w' ∧ NatsAt w' ao (els S) :=
  (implListOf_any S w).mono fun e w' ⟨ao, cap, h1, h2, h3⟩ => ⟨ao, cap, by rw [h1, listOf_length h], h2, by have := h3.ints; rw [listOf_nat h] at this; exact this.nats⟩

theorem specListN_any (S : Nat) (h : S < 128) (w : World) : Calls Try.prog 67 #[.int .i64 S] w fun e w' => ∃ ao cap, e = .returned (.slice ao (cnt S) cap) ∧ Below w.heap.size w w' ∧ NatsAt w' ao (els S) :=
  (specListOf_any S w).mono fun e w' ⟨ao, cap, h1, h2, h3⟩ => ⟨ao, cap, by rw [h1, listOf_length h], h2, by have := h3.ints; rw [listOf_nat h] at this; exact this.nats⟩

theorem implCount_any (S : Nat) (h : S < 128) (w : World) : Calls Try.prog 50 #[.int .i64 S] w fun e w' => e = .returned (.int .i64 (cnt S)) ∧ Below w.heap.size w w' :=
  (implCountSet_any S w).mono fun e w' ⟨h1, h2⟩ => ⟨by rw [h1, listOf_length h], h2⟩

theorem specCount_any (S : Nat) (h : S < 128) (w : World) : Calls Try.prog 36 #[.int .i64 S] w fun e w' => e = .returned (.int .i64 (cnt S)) ∧ Below w.heap.size w w' :=
  (specCountSet_any S w).mono fun e w' ⟨h1, h2⟩ => ⟨by rw [h1, listOf_length h], h2⟩

/-- A member of a set's list. -/
theorem els_at {S N : Nat} (h : S < 2 ^ N) (hN : N ≤ 7) {k : Nat} (hk : k < cnt S) : eln (els S) k < N ∧ S.testBit (eln (els S) k) = true := by
  have hm := (mem_els h hN).1 (eln_mem (l := els S) hk)
  exact ⟨testBit_lt h hm, hm⟩



end Go.Proofs.Ytfkehmpckhmkbaa
