/-
  FormatPrunes of the program. For at most 2^20 prunes.
  FormatPrunes of both sides. For at most 2^20 prunes.
-/
import Derived.Test.YtjikmjhpmkakoaaGreatDoorPkCardHereditary42
import Derived.Test.YtjikmjhpmkakoaaGreatDoorPkCardHereditary02
import Derived.BigQuiet
import Derived.Deep.RegionWith
import Derived.Deep.CutRange
namespace Go.Proofs.YtjikmjhpmkakoaaGreatDoor
open Go.RowKit

theorem info_str : (Tryz.prog.info? 9).map (fun i => (i.zero, i.size, i.bytes)) = some (some (.string ⟨#[]⟩), 1, 16) := by kernel_rfl

/-- The slice value v owns the strings xs in a row of the call's own, from block 'base' on. -/
def OwnT (w : World) (base : Nat) (v : Value) (xs : List Value) : Prop := w.ownsRow base 9 1 v xs.length xs

theorem OwnT.cells {w : World} {base n cap g : Nat} {xs : List Value} (h : OwnT w base (.slice (some ⟨g, 0, none⟩) n cap) xs) : g < w.heap.size ∧ xs.length ≤ cap ∧ ∀ k u, xs[k]? = some u → w.cell? ⟨g, k, none⟩ = some u := by
  obtain ⟨hl, ⟨h1, -⟩ | ⟨g', cp, cur, hv, hg, hb, hn, hm, hsz, ht⟩⟩ := h
  · cases h1
  · simp only [Value.slice.injEq, Option.some.injEq, Addr.mk.injEq] at hv
    obtain ⟨⟨rfl, -, -⟩, -, rfl⟩ := hv
    refine ⟨(Array.getElem?_eq_some_iff.1 hb).1, hn, fun k u hk => ?_⟩
    obtain ⟨hkl, -⟩ := List.getElem?_eq_some_iff.1 hk
    have : cur[k]? = some u := by
      have e : (cur.toList.take (xs.length * 1))[k]? = xs[k]? := by rw [ht]
      rw [List.getElem?_take, if_pos (by omega), Array.getElem?_toList] at e
      rw [e]; exact hk
    simp only [World.cell?, hb]
    simpa using this

theorem OwnT.form {w : World} {base : Nat} {v : Value} {xs : List Value} (h : OwnT w base v xs) (h0 : 0 < xs.length) : ∃ g cap, v = .slice (some ⟨g, 0, none⟩) xs.length cap := by
  obtain ⟨hl, ⟨h1, h2⟩ | ⟨g, cp, cur, hv, -⟩⟩ := h
  · omega
  · exact ⟨_, _, hv⟩

theorem OwnT.alloc {w : World} {base : Nat} {v : Value} {xs : List Value} (h : OwnT w base v xs) (o : Obj) : OwnT (w.alloc o) base v xs := World.ownsRow.alloc h o

theorem OwnT.below {w w' : World} {base : Nat} {v : Value} {xs : List Value} (h : OwnT w base v xs) (hb : Below w.heap.size w w') : OwnT w' base v xs := by
  obtain ⟨h0, h1 | ⟨g, cap, cur, hv, hg, hh, r⟩⟩ := h
  · exact ⟨h0, .inl h1⟩
  · exact ⟨h0, .inr ⟨g, cap, cur, hv, hg, by rw [hb.block g (Array.getElem?_eq_some_iff.1 hh).1]; exact hh, r⟩⟩

/-- '[]string{}' -/
theorem OwnT.empty (w : World) : OwnT (w.alloc (.cells #[] 9)) w.heap.size (.slice (some ⟨w.heap.size, 0, none⟩) 0 0) [] :=
  ⟨by simp, .inr ⟨w.heap.size, 0, #[], rfl, Nat.le_refl _, by show (w.heap.push _)[w.heap.size]? = _; simp, Nat.le_refl _, by simp, by simp, by simp⟩⟩

theorem OwnT.own {w : World} {base : Nat} {v : Value} {xs : List Value} (h : OwnT w base v xs) : ∀ k, v.ownBlock = some k → base ≤ k := by
  intro k hk
  obtain ⟨hl, ⟨h1, h2⟩ | ⟨g, cp, cur, hv, hg, -⟩⟩ := h
  · rw [h1] at hk; cases hk
  · rw [hv] at hk
    simp only [Value.ownBlock, Option.some.injEq] at hk
    omega

/-- 'out = append(out, y)', out the call's own, y a string. -/
theorem wpList_append_str {ops : Array Oper} {rest : List Oper} {o : Oper} {a : Act} {Q : Exit → Act → World → Prop} {w : World} (hgd : o.guard = none) (s x : Operand)
    (ho : o.op = .call { callee := .builtin .append, args := #[s, x], argTypes := #[77, 77] })
    (base : Nat) (v : Value) (xs : List Value) (y : Value) (hy : y.oneCell' = true) (hs : a.eval s = v) (hown : OwnT w base v xs) (hx : a.eval x = .slice (some ⟨w.heap.size, 0, none⟩) 1 1) (hbase : base ≤ w.heap.size) (hlen : xs.length ≤ 1048576)
    (h : ∀ g cap w', OwnT w' base (.slice (some ⟨g, 0, none⟩) (xs.length + 1) cap) (xs ++ [y]) → Below base w w' → wpList Tryz.prog ops Q rest (a.put o.dst (.slice (some ⟨g, 0, none⟩) (xs.length + 1) cap)) w') :
    wpList Tryz.prog ops Q (o :: rest) a (w.alloc (.cells #[y] 9)) := by
  obtain ⟨i0, hi, hz0, hz1, hz2⟩ := info_parts info_str
  refine wpList_append_own (w.alloc (.cells #[y] 9)) hgd s x 77 ho base 9 i0 (.string ⟨#[]⟩) 1 16 Tryz.underlying77 hi hz0 hz1 hz2 rfl (by decide) v xs.length xs hs (hown.alloc _)
    ⟨w.heap.size, 0, none⟩ 1 1 [y] hx rfl ?_ ?_ (by unfold maxLen; omega) (by omega) (by simp; omega) ?_
  · intro j u hj
    match j, hj with
    | 0, hj => simp at hj; subst hj; simp [Addr.add]
  · intro u hu; simp at hu; subst hu; exact hy
  · intro v' w' h1 h2 _
    have h3 : OwnT w' base v' (xs ++ [y]) := by unfold OwnT; simpa using h1
    obtain ⟨g, cap, rfl⟩ := h3.form (by simp)
    have e : (xs ++ [y]).length = xs.length + 1 := by simp
    rw [e] at h3 ⊢
    refine h g cap w' h3 ?_
    have hb : Below base w (w.alloc (.cells #[y] 9)) := (Below.refl _ _).alloc hbase _
    exact hb.grown h2 (by simp; omega) hown.own

theorem OwnT.low {w : World} {b b' : Nat} {v : Value} {xs : List Value} (h : OwnT w b v xs) (hb : b' ≤ b) : OwnT w b' v xs := by
  obtain ⟨h0, h1 | ⟨g, cap, cur, hv, hg, r⟩⟩ := h
  · exact ⟨h0, .inl h1⟩
  · exact ⟨h0, .inr ⟨g, cap, cur, hv, Nat.le_trans hb hg, r⟩⟩

/-- The words. -/
def wl (l : List Int) (k : Nat) : List Value := (List.range k).map fun j => Value.string (wordS l j)
theorem wl_len (l : List Int) (k : Nat) : (wl l k).length = k := by simp [wl]
theorem wl_succ (l : List Int) (k : Nat) : wl l (k + 1) = wl l k ++ [Value.string (wordS l k)] := by simp [wl, List.range_succ]
theorem join_snoc (xs : List (List UInt8)) (y sep : List UInt8) (h : xs ≠ []) : Lib.join (xs ++ [y]) sep = Lib.join xs sep ++ (sep ++ y) := by
  cases xs with
  | nil => exact absurd rfl h
  | cons x r => rw [List.cons_append, Lib.join_cons, Lib.join_cons]; simp [Lib.joinTail]
theorem wl_joinL (l : List Int) : ∀ k, Lib.join (((List.range k).map (wordS l)).map (·.data.toList)) [32] = (prStr l k).data.toList
  | 0 => rfl
  | k + 1 => by
    have ih := wl_joinL l k
    show _ = ((if k = 0 then prStr l k else prStr l k ++ ⟨#[32]⟩) ++ wordS l k).data.toList
    rw [List.range_succ, List.map_append, List.map_append]
    by_cases h : k = 0
    · subst h; rw [if_pos rfl]; simp [Lib.join_one, ByteArray.data_append, prStr]
    · rw [if_neg h, List.map_cons, List.map_nil, List.map_cons, List.map_nil, join_snoc _ _ _ (by simp; omega), ih]
      simp [ByteArray.data_append]
theorem wl_join (l : List Int) (k : Nat) : (⟨(Lib.join (((List.range k).map (wordS l)).map (·.data.toList)) (⟨#[32]⟩ : ByteArray).data.toList).toArray⟩ : ByteArray) = prStr l k := by
  show (⟨(Lib.join (((List.range k).map (wordS l)).map (·.data.toList)) [32]).toArray⟩ : ByteArray) = prStr l k
  rw [wl_joinL, Array.toArray_toList]
theorem wl_joinLen (l : List Int) (k : Nat) : (Lib.join (((List.range k).map (wordS l)).map (·.data.toList)) (⟨#[32]⟩ : ByteArray).data.toList).length = (prStr l k).size := by
  show (Lib.join (((List.range k).map (wordS l)).map (·.data.toList)) [32]).length = (prStr l k).size
  rw [wl_joinL, Array.length_toList]; rfl

theorem fmtPr_badAll {l : List Int} {K : Nat} (h : ¬∀ k, k < K → prOk l k = true) : fmtPr l K = ⟨#[]⟩ := by
  unfold fmtPr fmtOk
  rw [if_neg]
  rw [Bool.and_eq_true, decide_eq_true_eq, decide_eq_true_eq]
  exact fun h2 => h h2.2

set_option maxRecDepth 100000 in
set_option maxHeartbeats 4000000 in
theorem implFmtPr_any (l : List Int) (ao : Option Addr) (K c : Nat) (w : World) (hl : IntsAt w ao l) (hk : l.length = K * 3) (hn : K ≤ 1048576) :
    Calls Tryz.prog 20 #[.slice ao K c] w fun e w' => e = .returned (.string (fmtPr l K)) ∧ Below w.heap.size w w' := by
  have hC := fun m : Later w => containsP_any l ao K c m.w (hl.later m) hk hn
  have Hhk := Lib.hid hk
  clear hk
  by_cases h7 : K ≤ 7
  · have d7 : decide ((7 : Int) < (K : Int)) = false := decide_eq_false (by omega)
    by_cases hA : ∀ k, k < K → prOk l k = true
    · have HE := Lib.hid (fmtPr_of h7 hA)
      rw [decide_eq_true hA] at hC
      have HhA := Lib.hid hA
      clear hA
      go_enter Tryz.func20, Tryz.ntmps20
      go_wp2_with fail
      refine (hC (Later.refl w)).mono ?_
      rintro e w2 ⟨rfl, hB2⟩
      obtain ⟨m, rfl⟩ : ∃ m2 : Later w, m2.w = w2 := ⟨⟨w2, hB2⟩, rfl⟩
      clear hB2 hC
      go_wp2_with fail
      go_loopw [3, 17] (fun s i wr => ∃ m2 : Later w, wr = m2.w ∧ ∃ k : Nat, k ≤ K ∧ i = .int .i64 k ∧ ∃ g cap : Nat, s = .slice (some ⟨g, 0, none⟩) k cap ∧ OwnT m2.w w.heap.size (.slice (some ⟨g, 0, none⟩) k cap) (wl l k)) (fun _ i _ => K - (intOf i).toNat)
      case atStart => exact ⟨m.on ((Below.refl _ _).alloc (Nat.le_refl _) _), rfl, 0, by omega, rfl, _, 0, rfl, (OwnT.empty m.w).low m.size⟩
      case round =>
        obtain ⟨m, rfl, k, hkK, rfl, g, cap, rfl, hO⟩ := hrel
        by_cases hlt : k < K
        · obtain ⟨b, off, rfl, hb, hc⟩ := hl (by have := Hhk.out; omega)
          have x0 := hc (k * 3) (by have := Hhk.out; omega)
          have x1 := hc (k * 3 + 1) (by have := Hhk.out; omega)
          have x2 := hc (k * 3 + 2) (by have := Hhk.out; omega)
          rw [← Nat.add_assoc] at x1 x2
          clear hc
          have HS := Lib.hid (wl_succ l k)
          have HLn := wl_len l k
          have HWd : Hid (wordS l k = (numS (gi l (k * 3)).toNat ++ kindS (gi l (k * 3 + 1)).toNat) ++ (if gi l (k * 3 + 2) = -1 then ⟨#[]⟩ else numS (gi l (k * 3 + 2)).toNat)) := rfl
          have hp := HhA.out k hlt
          unfold prOk at hp
          simp only [Bool.and_eq_true, decide_eq_true_eq] at hp
          generalize gi l (k * 3) = V at *
          generalize gi l (k * 3 + 1) = Q at *
          generalize gi l (k * 3 + 2) = A at *
          generalize wl l k = xs at *
          obtain ⟨⟨h1, h1'⟩, ⟨h2, h2'⟩, h3, h3'⟩ := hp
          obtain ⟨v, rfl⟩ := Int.eq_ofNat_of_zero_le h1
          obtain ⟨q, rfl⟩ := Int.eq_ofNat_of_zero_le h2
          have HN := fun w => itoa_any v (by omega) w
          have hq : q < 4 := by omega
          have HhO := Lib.hid hO
          clear hO
          go_upto_region 7 with fail
          generalize hW2 : m.w.alloc _ = W2
          obtain ⟨hB2, hs2, k2⟩ := alloc1 hW2
          have y0 := (k2.cell 0).trans (show _ = some (.int .i64 (v : Int)) from rfl)
          have y1 := (k2.cell 1).trans (show _ = some (.int .i64 (q : Int)) from rfl)
          have y2 := (k2.cell 2).trans (show _ = some (.int .i64 A) from rfl)
          have yb : m.w.heap.size < W2.heap.size := by omega
          have n3 := numS_size' v
          go_quiet ((go_at_call 72; exact Calls.quiet_of_same ((HN _).mono fun _ _ h => ⟨h.1, h.2.symm⟩)))
          obtain ⟨M, hM⟩ : ∃ M : Later W2, M.w = W2.drewN nq := ⟨⟨W2.drewN nq, Below.trans (c := W2.drewN nq) (Below.refl W2.heap.size W2) ⟨rfl, rfl, rfl, Nat.le_refl _, fun _ _ => rfl⟩⟩, rfl⟩
          rw [← hM]
          have hB6 := below_more (m.below.trans (hB2.mono m.size)) M.below
          have hO := HhO.out.below (hB2.trans (M.below.mono hB2.size))
          have hWM : w.heap.size ≤ M.w.heap.size := hB6.size
          replace y2 := (M.cell _ 2 yb).trans y2
          have hlM := Nat.lt_of_lt_of_le yb M.size
          have HT : Hid (∀ t : ByteArray, (numS v ++ kindS q) ++ t = (numS v ++ (⟨#[46, 45, 61, 35]⟩ : ByteArray).extract q (q + 1)) ++ t) := fun t => rfl
          have n4 : (numS v ++ (⟨#[46, 45, 61, 35]⟩ : ByteArray).extract q (q + 1)).size ≤ 6 := by
            have := kindS_size q
            rw [ByteArray.size_append]
            show _ + (kindS q).size ≤ 6
            omega
          generalize numS v ++ (⟨#[46, 45, 61, 35]⟩ : ByteArray).extract q (q + 1) = T at *
          clear hM hB2 hs2 k2 hW2 y0 y1 HhO HN
          by_cases hA1 : A = -1
          · subst hA1
            have HW : Hid (wordS l k = T) := by
              show _ = _
              rw [HWd.out, if_pos rfl, Int.toNat_natCast, Int.toNat_natCast, HT.out, app_nil]
            go_wp2_with (at_builtin; go_must (refine wpList_append_str rfl _ _ rfl w.heap.size (.slice (some ⟨g, 0, none⟩) k cap) xs _ rfl rfl hO (by show Value.slice _ _ _ = _; simp) hWM (by omega) ?_); intro g6 cap6 w6 hO6 hB7)
            go_roundw
            case rel => exact ⟨⟨w6, hB6.trans hB7⟩, rfl, k + 1, by omega, by go_num, g6, cap6, rfl, by rw [HS.out, HW.out]; rw [HLn] at hO6; exact hO6⟩
            case measure => simp [intOf]; omega
          · obtain ⟨a, rfl⟩ := Int.eq_ofNat_of_zero_le (show 0 ≤ A by omega)
            have HA := fun w => itoa_any a (by omega) w
            have n6 := numS_size' a
            have HW : Hid (wordS l k = T ++ numS a) := by
              show _ = _
              rw [HWd.out, if_neg (by omega), Int.toNat_natCast, Int.toNat_natCast, Int.toNat_natCast, HT.out]
            go_wp2_with (first | (go_at_call 72; refine (HA _).mono ?_; rintro e w' ⟨rfl, rfl⟩) | (at_builtin; go_must (refine wpList_append_str rfl _ _ rfl w.heap.size (.slice (some ⟨g, 0, none⟩) k cap) xs _ rfl rfl hO (by show Value.slice _ _ _ = _; simp) hWM (by omega) ?_); intro g6 cap6 w6 hO6 hB7))
            go_roundw
            case rel => exact ⟨⟨w6, hB6.trans hB7⟩, rfl, k + 1, by omega, by go_num, g6, cap6, rfl, by rw [HS.out, HW.out]; rw [HLn] at hO6; exact hO6⟩
            case measure => simp [intOf]; omega
        · obtain rfl : k = K := by omega
          have hJ := stringsJoin_any g 0 cap ((List.range k).map (wordS l)) ⟨#[32]⟩ m.w (fun j x hx => by
            obtain ⟨h1, h2, h3⟩ := hO.cells
            rw [Nat.zero_add]
            refine h3 j (.string x) ?_
            unfold wl
            rw [List.getElem?_map] at hx ⊢
            cases hr : (List.range k)[j]? with
            | none => rw [hr] at hx; cases hx
            | some i => rw [hr] at hx; simp only [Option.map_some, Option.some.injEq] at hx ⊢; rw [hx]) hO.cells.1 (by simp; omega) (by have := hO.cells.2.1; rw [wl_len] at this; simpa using this) (by rw [wl_joinLen]; have := prStr_size l k; omega)
          rw [wl_join, List.length_map, List.length_range] at hJ
          go_wp2_with fail
          refine hJ.mono ?_
          rintro e w4 ⟨rfl, hB4⟩
          go_wp2_with fail
          go_ret
          exact ⟨by rw [HE.out]; rfl, below_more m.below hB4⟩
    · have HE := Lib.hid (fmtPr_badAll hA)
      rw [decide_eq_false hA] at hC
      go_enter Tryz.func20, Tryz.ntmps20
      go_wp2_with fail
      refine (hC (Later.refl w)).mono ?_
      rintro e w2 ⟨rfl, hB2⟩
      go_wp2_with fail
      go_ret
      exact ⟨by rw [HE.out]; rfl, hB2⟩
  · have d7 : decide ((7 : Int) < (K : Int)) = true := decide_eq_true (by omega)
    have HE := Lib.hid (fmtPr_long (l := l) h7)
    go_enter Tryz.func20, Tryz.ntmps20
    go_wp2_with fail
    go_ret
    exact ⟨by rw [HE.out]; rfl, Below.refl _ _⟩

end Go.Proofs.YtjikmjhpmkakoaaGreatDoor

namespace Go.Proofs.YtjikmjhpmkakoaaGreatDoor
open Go.RowKit

theorem frP_lt {W w4 : World} {cs : Array Value} {T : TypeId} (h : Below (W.alloc (.cells cs T)).drew.heap.size (W.alloc (.cells cs T)).drew w4) : W.heap.size < w4.heap.size := Nat.lt_of_lt_of_le (by show W.heap.size < (W.alloc _).heap.size; simp) h.size
theorem frP_cell {W w4 : World} {cs : Array Value} {T : TypeId} (h : Below (W.alloc (.cells cs T)).drew.heap.size (W.alloc (.cells cs T)).drew w4) (i : Nat) : w4.cell? ⟨W.heap.size, i, none⟩ = cs[i]? := (h.cell (p := ⟨W.heap.size, i, none⟩) (by show W.heap.size < (W.alloc _).heap.size; simp)).trans ((Blk.made W cs T rfl).cell i)

def marks : Array Value := #[.string ⟨#[46]⟩, .string ⟨#[45]⟩, .string ⟨#[61]⟩, .string ⟨#[35]⟩]
theorem marks_at : ∀ q : Nat, q < 4 → marks[q]? = some (.string (kindS q))
  | 0, _ => congrArg (fun s => some (Value.string s)) (kindS_at ⟨0, by decide⟩).symm
  | 1, _ => congrArg (fun s => some (Value.string s)) (kindS_at ⟨1, by decide⟩).symm
  | 2, _ => congrArg (fun s => some (Value.string s)) (kindS_at ⟨2, by decide⟩).symm
  | 3, _ => congrArg (fun s => some (Value.string s)) (kindS_at ⟨3, by decide⟩).symm
  | k + 4, h => by omega

set_option maxRecDepth 100000 in
set_option maxHeartbeats 20000000 in
theorem specFmtPr_any (l : List Int) (ao : Option Addr) (K c : Nat) (w : World) (hl : IntsAt w ao l) (hk : l.length = K * 3) (hn : K ≤ 1048576) :
    Calls Tryz.prog 21 #[.slice ao K c] w fun e w' => e = .returned (.string (fmtPr l K)) ∧ Below w.heap.size w w' := by
  have Hhk := Lib.hid hk
  clear hk
  by_cases h7 : K ≤ 7
  · have d7 : decide ((K : Int) ≤ 7) = true := decide_eq_true (by omega)
    go_enter Tryz.func21, Tryz.ntmps21
    go_wp2_with fail
    go_loopw [3, 4] (fun s i wr => (∃ m : Later w, wr = m.w) ∧ ∃ k : Nat, k ≤ K ∧ i = .int .i64 k ∧ s = .string (prStr l k) ∧ ∀ j, j < k → prOk l j = true) (fun _ i _ => K - (intOf i).toNat)
    case atStart => exact ⟨⟨Later.refl _, rfl⟩, 0, by omega, rfl, rfl, fun j h => by omega⟩
    case round =>
      obtain ⟨⟨m, rfl⟩, k, hkK, rfl, rfl, hP⟩ := hrel
      by_cases hlt : k < K
      · obtain ⟨b, off, rfl, hb, hc⟩ := hl (by have := Hhk.out; omega)
        have x0 := hc (k * 3) (by have := Hhk.out; omega)
        have x1 := hc (k * 3 + 1) (by have := Hhk.out; omega)
        have x2 := hc (k * 3 + 2) (by have := Hhk.out; omega)
        rw [← Nat.add_assoc] at x1 x2
        clear hc
        have HB := Lib.hid (fun h => fmtPr_bad (l := l) hlt h)
        have HW : Hid (prStr l (k + 1) = (if k = 0 then prStr l k else prStr l k ++ ⟨#[32]⟩) ++ wordS l k) := rfl
        have HWd : Hid (wordS l k = (numS (gi l (k * 3)).toNat ++ kindS (gi l (k * 3 + 1)).toNat) ++ (if gi l (k * 3 + 2) = -1 then ⟨#[]⟩ else numS (gi l (k * 3 + 2)).toNat)) := rfl
        have HOk : Hid (prOk l k = ((decide (0 ≤ gi l (k * 3)) && decide (gi l (k * 3) ≤ 6)) && ((decide (0 ≤ gi l (k * 3 + 1)) && decide (gi l (k * 3 + 1) ≤ 3)) && (decide (-1 ≤ gi l (k * 3 + 2)) && decide (gi l (k * 3 + 2) ≤ 6))))) := rfl
        have hsz := prStr_size l k
        generalize prStr l k = S at *
        generalize gi l (k * 3) = V at *
        generalize gi l (k * 3 + 1) = Q at *
        generalize gi l (k * 3 + 2) = A at *
        have HhP := Lib.hid hP
        clear hP
        have HG : ∀ w : World, Hid (∀ v : Nat, v < 100 → Calls Tryz.prog 74 #[.int .i64 v] w fun e w' => e = .returned (.string (numS v)) ∧ Below w.heap.size w w') := fun w v hv => fmt_any v hv w
        cases h1 : (decide (0 ≤ V) && decide (V ≤ 6))
        · go_wp2_with (first | (go_at_call 54; refine (l1In_any _ _ _ _).mono ?_; rintro e w' ⟨rfl, rfl⟩))
          go_ret
          exact ⟨by rw [HB.out (by rw [HOk.out, h1]; rfl)]; rfl, m.below.alloc m.size _⟩
        · cases h2 : (decide (0 ≤ Q) && decide (Q ≤ 3))
          · go_wp2_with (first | (go_at_call 54; refine (l1In_any _ _ _ _).mono ?_; rintro e w' ⟨rfl, rfl⟩) | (go_at_call 54; refine (l1In_any _ _ _ _).mono ?_; rintro e w' ⟨rfl, rfl⟩))
            go_ret
            exact ⟨by rw [HB.out (by rw [HOk.out, h1, h2]; rfl)]; rfl, m.below.alloc m.size _⟩
          · cases h3 : (decide (-1 ≤ A) && decide (A ≤ 6))
            · go_wp2_with (first | (go_at_call 54; refine (l1In_any _ _ _ _).mono ?_; rintro e w' ⟨rfl, rfl⟩) | (go_at_call 54; refine (l1In_any _ _ _ _).mono ?_; rintro e w' ⟨rfl, rfl⟩) | (go_at_call 54; refine (l1In_any _ _ _ _).mono ?_; rintro e w' ⟨rfl, rfl⟩))
              go_ret
              exact ⟨by rw [HB.out (by rw [HOk.out, h1, h2, h3]; rfl)]; rfl, m.below.alloc m.size _⟩
            · have HO : Hid (prOk l k = true) := HOk.out.trans (by rw [h1, h2, h3]; rfl)
              rw [Bool.and_eq_true, decide_eq_true_eq, decide_eq_true_eq] at h1 h2 h3
              obtain ⟨v, rfl⟩ := Int.eq_ofNat_of_zero_le h1.1
              obtain ⟨q, rfl⟩ := Int.eq_ofNat_of_zero_le h2.1
              have HN := (HG · |>.out v (by omega))
              have hq : q < 4 := by omega
              have g1 : (decide ((0 : Int) ≤ (v : Int)) && decide ((v : Int) ≤ 6)) = true := by rw [decide_eq_true (by omega), decide_eq_true (by omega)]; rfl
              have g2 : (decide ((0 : Int) ≤ (q : Int)) && decide ((q : Int) ≤ 3)) = true := by rw [decide_eq_true (by omega), decide_eq_true (by omega)]; rfl
              have g3 : (decide (-1 ≤ A) && decide (A ≤ 6)) = true := by rw [decide_eq_true (by omega), decide_eq_true (by omega)]; rfl
              go_upto_if 38 with (first | (go_at_call 54; refine (l1In_any _ _ _ _).mono ?_; rintro e w' ⟨rfl, rfl⟩))
              obtain ⟨S2, hS2⟩ : ∃ S2, S2 = if k = 0 then S else S ++ ⟨#[32]⟩ := ⟨_, rfl⟩
              have HW2 : Hid (prStr l (k + 1) = S2 ++ wordS l k) := HW.out.trans (by rw [hS2])
              have n1 : S2.size ≤ 64 := by
                rw [hS2]
                split
                · omega
                · rw [ByteArray.size_append]; have e : (⟨#[32]⟩ : ByteArray).size = 1 := rfl; omega
              clear HW g1 g2 g3
              generalize hW2 : m.w.alloc _ = W2
              obtain ⟨hB2, hs2, k2⟩ := alloc1 hW2
              go_cut [3] from 37 to 59 (fun s wx => s = .string S2 ∧ wx = W2)
              case first =>
                by_cases hk0 : 0 < k
                · have d0 : decide ((0 : Int) < (k : Int)) = true := decide_eq_true (by omega)
                  go_wp2_with fail
                  go_meet
                  exact ⟨by rw [hS2, if_neg (by omega)], rfl⟩
                · have d0 : decide ((0 : Int) < (k : Int)) = false := decide_eq_false (by omega)
                  go_wp2_with fail
                  go_meet
                  exact ⟨by rw [hS2, if_pos (by omega)], rfl⟩
              case rest =>
                obtain ⟨rfl, hwc⟩ := hcut
                rw [hwc]
                clear hS2 hsz hwc
                go_upto_region 10 with fail
                have y0 := (k2.cell 0).trans (show _ = some (.int .i64 (v : Int)) from rfl)
                have y1 := (k2.cell 1).trans (show _ = some (.int .i64 (q : Int)) from rfl)
                have y2 := (k2.cell 2).trans (show _ = some (.int .i64 A) from rfl)
                have yb : m.w.heap.size < W2.heap.size := by omega
                have n3 := numS_size' v
                have n2 : (S2 ++ numS v).size ≤ 66 := by rw [ByteArray.size_append]; omega
                have n4 := kindS_size q
                have n5 : ((S2 ++ numS v) ++ kindS q).size ≤ 70 := by rw [ByteArray.size_append]; omega
                have zB : (W2.alloc (.cells marks 9)).drew.cell? ⟨m.w.heap.size + 1, q, none⟩ = some (.string (kindS q)) := by
                  rw [← hs2]; exact ((Blk.made W2 marks 9 rfl).drew.cell q).trans (marks_at q hq)
                have hB6 := m.below.trans (hB2.mono m.size)
                unfold marks at zB
                have HHN := Lib.hid HN
                clear HN
                clear hW2 k2
                go_cut [3] from 39 to 59 (fun s wx => s = .string ((S2 ++ numS v) ++ kindS q) ∧ ∃ m' : Later W2, wx = m'.w)
                case first =>
                  clear y2 hB2 hB6 HW2 HG HhP HB HO HOk HWd hl hb x0 x1 x2 hkK hlt h1 h2 h3 hn Hhk h7 d7
                  go_region_with (go_at_call 74; refine (HHN.out _).mono ?_; rintro e w4 ⟨rfl, hB3⟩; (first | (have hB5 : Below W2.heap.size W2 w4 := below_more (Below.refl _ _).drew hB3; have zC := ((Blk.made w4 marks 9 rfl).cell q).trans (marks_at q hq); unfold marks at zC) | (have hB5 : Below W2.heap.size W2 w4 := below_more ((Below.refl W2.heap.size W2).alloc (Nat.le_refl _) _).drew hB3; have zz := (frP_cell hB3 q).trans (marks_at q hq); have zl := frP_lt hB3; rw [hs2] at zz zl)); have z1 := (hB5.cell (p := ⟨m.w.heap.size, 1, none⟩) yb).trans y1; have zb := Nat.lt_of_lt_of_le yb hB5.size; dsimp only)
                  all_goals
                    go_wp2_with fail
                    go_meet
                    first
                      | exact ⟨rfl, ⟨⟨_, hB5⟩, rfl⟩⟩
                      | exact ⟨rfl, ⟨⟨_, hB5.alloc hB5.size _⟩, rfl⟩⟩
                case rest =>
                  obtain ⟨rfl, m', rfl⟩ := hcut
                  have yb' := Nat.lt_of_lt_of_le yb m'.size
                  replace y0 := (m'.cell _ 0 yb).trans y0
                  replace y1 := (m'.cell _ 1 yb).trans y1
                  replace y2 := (m'.cell _ 2 yb).trans y2
                  have HS3 : Hid (∀ t : ByteArray, S2 ++ ((numS v ++ kindS q) ++ t) = ((S2 ++ numS v) ++ kindS q) ++ t) := fun t => by rw [ByteArray.append_assoc, ByteArray.append_assoc, ByteArray.append_assoc]
                  generalize (S2 ++ numS v) ++ kindS q = S3 at *
                  have hB7 := below_more hB6 m'.below
                  by_cases hA : A = -1
                  · subst hA
                    go_wp2_with fail
                    go_roundw
                    case rel => exact ⟨⟨⟨_, hB7⟩, rfl⟩, k + 1, by omega, by go_num, congrArg Value.string (by rw [HW2.out, HWd.out, if_pos rfl, Int.toNat_natCast, Int.toNat_natCast, HS3.out, app_nil]), all_succ HhP.out HO⟩
                    case measure => simp [intOf]; omega
                  · obtain ⟨a, rfl⟩ := Int.eq_ofNat_of_zero_le (show 0 ≤ A by omega)
                    have HA := (HG · |>.out a (by omega))
                    have n6 := numS_size' a
                    go_wp2_with (first | (go_at_call 74; refine (HA _).mono ?_; rintro e w5 ⟨rfl, hB8⟩))
                    go_roundw
                    case rel => exact ⟨⟨⟨_, below_more hB7 hB8⟩, rfl⟩, k + 1, by omega, by go_num, congrArg Value.string (by rw [HW2.out, HWd.out, if_neg (by omega), Int.toNat_natCast, Int.toNat_natCast, Int.toNat_natCast, HS3.out]), all_succ HhP.out HO⟩
                    case measure => simp [intOf]; omega
      · obtain rfl : k = K := by omega
        have HE := Lib.hid (fmtPr_of h7 hP)
        clear hP
        go_wp2_with fail
        go_ret
        exact ⟨by rw [HE.out]; rfl, m.below⟩
  · have d7 : decide ((K : Int) ≤ 7) = false := decide_eq_false (by omega)
    have HE := Lib.hid (fmtPr_long (l := l) h7)
    have h0 : decide ((0 : Int) < (K : Int)) = true := decide_eq_true (by omega)
    go_enter Tryz.func21, Tryz.ntmps21
    go_wp2_with fail
    go_loopw [3, 4] (fun s i wr => wr = w ∧ i = .int .i64 0 ∧ s = .string ⟨#[]⟩) (fun _ _ _ => 0)
    case atStart => exact ⟨rfl, rfl, rfl⟩
    case round =>
      obtain ⟨rfl, rfl, rfl⟩ := hrel
      go_wp2_with fail
      go_ret
      exact ⟨by rw [HE.out]; rfl, Below.refl _ _⟩

end Go.Proofs.YtjikmjhpmkakoaaGreatDoor
