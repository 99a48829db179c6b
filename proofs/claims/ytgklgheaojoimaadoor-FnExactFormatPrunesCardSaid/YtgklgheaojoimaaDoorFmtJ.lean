/-
  FormatPrunes of the program. For at most 2^20 prunes.
-/
import Derived.Test.YtgklgheaojoimaaDoorFmtI
import Derived.Test.YtgklgheaojoimaaDoorJoinLaid
import Derived.Test.YtgklgheaojoimaaDoorLists
import Derived.BigQuiet
namespace Go.Proofs.YtgklgheaojoimaaDoor
open Go.RowKit

theorem info_str : (Tryd.prog.info? 9).map (fun i => (i.zero, i.size, i.bytes)) = some (some (.string ⟨#[]⟩), 1, 16) := by kernel_rfl

/-- The slice value v owns the strings xs in a row of the call's own, from block 'base' on. -/
def OwnT (w : World) (base : Nat) (v : Value) (xs : List Value) : Prop := w.ownsRow base 9 1 v xs.length xs

theorem OwnT.cells {w : World} {base n cap g : Nat} {xs : List Value} (h : OwnT w base (.slice (some ⟨g, 0, none⟩) n cap) xs) : g < w.heap.size ∧ xs.length ≤ cap ∧ ∀ k u, xs[k]? = some u → w.cell? ⟨g, k, none⟩ = some u := by
  obtain ⟨hl, ⟨h1, -⟩ | ⟨g', cp, cur, hv, hg, hb, hn, hm, hsz, ht⟩⟩ := h
  · cases h1
  · simp only [Value.slice.injEq, Option.some.injEq, Addr.mk.injEq] at hv
    obtain ⟨⟨rfl, -, -⟩, -, rfl⟩ := hv
    refine ⟨(Array.getElem?_eq_some_iff.1 hb).1, hn, fun k u hk => ?_⟩
    obtain ⟨hkl, -⟩ := List.getElem?_eq_some_iff.1 hk
    have : cur[k]? = some u := by
      have e : (cur.toList.take (xs.length * 1))[k]? = xs[k]? := by rw [ht]
      rw [List.getElem?_take, if_pos (by omega), Array.getElem?_toList] at e
      rw [e]; exact hk
    simp only [World.cell?, hb]
    simpa using this

theorem OwnT.form {w : World} {base : Nat} {v : Value} {xs : List Value} (h : OwnT w base v xs) (h0 : 0 < xs.length) : ∃ g cap, v = .slice (some ⟨g, 0, none⟩) xs.length cap := by
  obtain ⟨hl, ⟨h1, h2⟩ | ⟨g, cp, cur, hv, -⟩⟩ := h
  · omega
  · exact ⟨_, _, hv⟩

theorem OwnT.alloc {w : World} {base : Nat} {v : Value} {xs : List Value} (h : OwnT w base v xs) (o : Obj) : OwnT (w.alloc o) base v xs := World.ownsRow.alloc h o

theorem OwnT.below {w w' : World} {base : Nat} {v : Value} {xs : List Value} (h : OwnT w base v xs) (hb : Below w.heap.size w w') : OwnT w' base v xs := by
  obtain ⟨h0, h1 | ⟨g, cap, cur, hv, hg, hh, r⟩⟩ := h
  · exact ⟨h0, .inl h1⟩
  · exact ⟨h0, .inr ⟨g, cap, cur, hv, hg, by rw [hb.block g (Array.getElem?_eq_some_iff.1 hh).1]; exact hh, r⟩⟩

/-- '[]string{}' -/
theorem OwnT.empty (w : World) : OwnT (w.alloc (.cells #[] 9)) w.heap.size (.slice (some ⟨w.heap.size, 0, none⟩) 0 0) [] :=
  ⟨by simp, .inr ⟨w.heap.size, 0, #[], rfl, Nat.le_refl _, by show (w.heap.push _)[w.heap.size]? = _; simp, Nat.le_refl _, by simp, by simp, by simp⟩⟩

theorem OwnT.own {w : World} {base : Nat} {v : Value} {xs : List Value} (h : OwnT w base v xs) : ∀ k, v.ownBlock = some k → base ≤ k := by
  intro k hk
  obtain ⟨hl, ⟨h1, h2⟩ | ⟨g, cp, cur, hv, hg, -⟩⟩ := h
  · rw [h1] at hk; cases hk
  · rw [hv] at hk
    simp only [Value.ownBlock, Option.some.injEq] at hk
    omega

/-- 'out = append(out, y)', out the call's own, y a string. -/
theorem wpList_append_str {ops : Array Oper} {rest : List Oper} {o : Oper} {a : Act} {Q : Exit → Act → World → Prop} {w : World} (hgd : o.guard = none) (s x : Operand)
    (ho : o.op = .call { callee := .builtin .append, args := #[s, x], argTypes := #[69, 69] })
    (base : Nat) (v : Value) (xs : List Value) (y : Value) (hy : y.oneCell' = true) (hs : a.eval s = v) (hown : OwnT w base v xs) (hx : a.eval x = .slice (some ⟨w.heap.size, 0, none⟩) 1 1) (hbase : base ≤ w.heap.size) (hlen : xs.length ≤ 1048576)
    (h : ∀ g cap w', OwnT w' base (.slice (some ⟨g, 0, none⟩) (xs.length + 1) cap) (xs ++ [y]) → Below base w w' → wpList Tryd.prog ops Q rest (a.put o.dst (.slice (some ⟨g, 0, none⟩) (xs.length + 1) cap)) w') :
    wpList Tryd.prog ops Q (o :: rest) a (w.alloc (.cells #[y] 9)) := by
  obtain ⟨i0, hi, hz0, hz1, hz2⟩ := info_parts info_str
  refine wpList_append_own (w.alloc (.cells #[y] 9)) hgd s x 69 ho base 9 i0 (.string ⟨#[]⟩) 1 16 Tryd.underlying69 hi hz0 hz1 hz2 rfl (by decide) v xs.length xs hs (hown.alloc _)
    ⟨w.heap.size, 0, none⟩ 1 1 [y] hx rfl ?_ ?_ (by unfold maxLen; omega) (by omega) (by simp; omega) ?_
  · intro j u hj
    match j, hj with
    | 0, hj => simp at hj; subst hj; simp [Addr.add]
  · intro u hu; simp at hu; subst hu; exact hy
  · intro v' w' h1 h2 _
    have h3 : OwnT w' base v' (xs ++ [y]) := by unfold OwnT; simpa using h1
    obtain ⟨g, cap, rfl⟩ := h3.form (by simp)
    have e : (xs ++ [y]).length = xs.length + 1 := by simp
    rw [e] at h3 ⊢
    refine h g cap w' h3 ?_
    have hb : Below base w (w.alloc (.cells #[y] 9)) := (Below.refl _ _).alloc hbase _
    exact hb.grown h2 (by simp; omega) hown.own

theorem OwnT.low {w : World} {b b' : Nat} {v : Value} {xs : List Value} (h : OwnT w b v xs) (hb : b' ≤ b) : OwnT w b' v xs := by
  obtain ⟨h0, h1 | ⟨g, cap, cur, hv, hg, r⟩⟩ := h
  · exact ⟨h0, .inl h1⟩
  · exact ⟨h0, .inr ⟨g, cap, cur, hv, Nat.le_trans hb hg, r⟩⟩

/-- The words. -/
def wl (l : List Int) (k : Nat) : List Value := (List.range k).map fun j => Value.string (wordS l j)
theorem wl_len (l : List Int) (k : Nat) : (wl l k).length = k := by simp [wl]
theorem wl_succ (l : List Int) (k : Nat) : wl l (k + 1) = wl l k ++ [Value.string (wordS l k)] := by simp [wl, List.range_succ]
theorem join_snoc (xs : List (List UInt8)) (y sep : List UInt8) (h : xs ≠ []) : Lib.join (xs ++ [y]) sep = Lib.join xs sep ++ (sep ++ y) := by
  cases xs with
  | nil => exact absurd rfl h
  | cons x r => rw [List.cons_append, Lib.join_cons, Lib.join_cons]; simp [Lib.joinTail]
theorem wl_joinL (l : List Int) : ∀ k, Lib.join (((List.range k).map (wordS l)).map (·.data.toList)) [32] = (prStr l k).data.toList
  | 0 => rfl
  | k + 1 => by
    have ih := wl_joinL l k
    show _ = ((if k = 0 then prStr l k else prStr l k ++ ⟨#[32]⟩) ++ wordS l k).data.toList
    rw [List.range_succ, List.map_append, List.map_append]
    by_cases h : k = 0
    · subst h; rw [if_pos rfl]; simp [Lib.join_one, ByteArray.data_append, prStr]
    · rw [if_neg h, List.map_cons, List.map_nil, List.map_cons, List.map_nil, join_snoc _ _ _ (by simp; omega), ih]
      simp [ByteArray.data_append]
theorem wl_join (l : List Int) (k : Nat) : (⟨(Lib.join (((List.range k).map (wordS l)).map (·.data.toList)) (⟨#[32]⟩ : ByteArray).data.toList).toArray⟩ : ByteArray) = prStr l k := by
  show (⟨(Lib.join (((List.range k).map (wordS l)).map (·.data.toList)) [32]).toArray⟩ : ByteArray) = prStr l k
  rw [wl_joinL, Array.toArray_toList]
theorem wl_joinLen (l : List Int) (k : Nat) : (Lib.join (((List.range k).map (wordS l)).map (·.data.toList)) (⟨#[32]⟩ : ByteArray).data.toList).length = (prStr l k).size := by
  show (Lib.join (((List.range k).map (wordS l)).map (·.data.toList)) [32]).length = (prStr l k).size
  rw [wl_joinL, Array.length_toList]; rfl

theorem fmtPr_badAll {l : List Int} {K : Nat} (h : ¬∀ k, k < K → prOk l k = true) : fmtPr l K = ⟨#[]⟩ := by
  unfold fmtPr fmtOk
  rw [if_neg]
  rw [Bool.and_eq_true, decide_eq_true_eq, decide_eq_true_eq]
  exact fun h2 => h h2.2

set_option maxRecDepth 100000 in
set_option maxHeartbeats 4000000 in
theorem implFmtPr_any (l : List Int) (ao : Option Addr) (K c : Nat) (w : World) (hl : IntsAt w ao l) (hk : l.length = K * 3) (hn : K ≤ 1048576) :
    Calls Tryd.prog 30 #[.slice ao K c] w fun e w' => e = .returned (.string (fmtPr l K)) ∧ Below w.heap.size w w' := by
  have hC := fun m : Later w => containsP_any l ao K c m.w (hl.later m) hk hn
  have Hhk := Lib.hid hk
  clear hk
  by_cases h7 : K ≤ 7
  · have d7 : decide ((7 : Int) < (K : Int)) = false := decide_eq_false (by omega)
    by_cases hA : ∀ k, k < K → prOk l k = true
    · have HE := Lib.hid (fmtPr_of h7 hA)
      rw [decide_eq_true hA] at hC
      have HhA := Lib.hid hA
      clear hA
      go_enter Tryd.func30, Tryd.ntmps30
      go_wp2_with fail
      refine (hC (Later.refl w)).mono ?_
      rintro e w2 ⟨rfl, hB2⟩
      obtain ⟨m, rfl⟩ : ∃ m2 : Later w, m2.w = w2 := ⟨⟨w2, hB2⟩, rfl⟩
      clear hB2 hC
      go_wp2_with fail
      go_loopw [3, 17] (fun s i wr => ∃ m2 : Later w, wr = m2.w ∧ ∃ k : Nat, k ≤ K ∧ i = .int .i64 k ∧ ∃ g cap : Nat, s = .slice (some ⟨g, 0, none⟩) k cap ∧ OwnT m2.w w.heap.size (.slice (some ⟨g, 0, none⟩) k cap) (wl l k)) (fun _ i _ => K - (intOf i).toNat)
      case atStart => exact ⟨m.on ((Below.refl _ _).alloc (Nat.le_refl _) _), rfl, 0, by omega, rfl, _, 0, rfl, (OwnT.empty m.w).low m.size⟩
      case round =>
        obtain ⟨m, rfl, k, hkK, rfl, g, cap, rfl, hO⟩ := hrel
        by_cases hlt : k < K
        · obtain ⟨b, off, rfl, hb, hc⟩ := hl (by have := Hhk.out; omega)
          have x0 := hc (k * 3) (by have := Hhk.out; omega)
          have x1 := hc (k * 3 + 1) (by have := Hhk.out; omega)
          have x2 := hc (k * 3 + 2) (by have := Hhk.out; omega)
          rw [← Nat.add_assoc] at x1 x2
          clear hc
          have HS := Lib.hid (wl_succ l k)
          have HLn := wl_len l k
          have HWd : Hid (wordS l k = (numS (gi l (k * 3)).toNat ++ kindS (gi l (k * 3 + 1)).toNat) ++ (if gi l (k * 3 + 2) = -1 then ⟨#[]⟩ else numS (gi l (k * 3 + 2)).toNat)) := rfl
          have hp := HhA.out k hlt
          unfold prOk at hp
          simp only [Bool.and_eq_true, decide_eq_true_eq] at hp
          generalize gi l (k * 3) = V at *
          generalize gi l (k * 3 + 1) = Q at *
          generalize gi l (k * 3 + 2) = A at *
          generalize wl l k = xs at *
          obtain ⟨⟨h1, h1'⟩, ⟨h2, h2'⟩, h3, h3'⟩ := hp
          obtain ⟨v, rfl⟩ := Int.eq_ofNat_of_zero_le h1
          obtain ⟨q, rfl⟩ := Int.eq_ofNat_of_zero_le h2
          have HN := fun w => itoa_any v (by omega) w
          have hq : q < 4 := by omega
          have HhO := Lib.hid hO
          clear hO
          go_upto_region 7 with fail
          generalize hW2 : m.w.alloc _ = W2
          obtain ⟨hB2, hs2, k2⟩ := alloc1 hW2
          have y0 := (k2.cell 0).trans (show _ = some (.int .i64 (v : Int)) from rfl)
          have y1 := (k2.cell 1).trans (show _ = some (.int .i64 (q : Int)) from rfl)
          have y2 := (k2.cell 2).trans (show _ = some (.int .i64 A) from rfl)
          have yb : m.w.heap.size < W2.heap.size := by omega
          have n3 := numS_size' v
          go_quiet ((go_at_call 41; exact Calls.quiet_of_same ((HN _).mono fun _ _ h => ⟨h.1, h.2.symm⟩)))
          obtain ⟨M, hM⟩ : ∃ M : Later W2, M.w = W2.drewN nq := ⟨⟨W2.drewN nq, Below.trans (c := W2.drewN nq) (Below.refl W2.heap.size W2) ⟨rfl, rfl, rfl, Nat.le_refl _, fun _ _ => rfl⟩⟩, rfl⟩
          rw [← hM]
          have hB6 := below_more (m.below.trans (hB2.mono m.size)) M.below
          have hO := HhO.out.below (hB2.trans (M.below.mono hB2.size))
          have hWM : w.heap.size ≤ M.w.heap.size := hB6.size
          replace y2 := (M.cell _ 2 yb).trans y2
          have hlM := Nat.lt_of_lt_of_le yb M.size
          have HT : Hid (∀ t : ByteArray, (numS v ++ kindS q) ++ t = (numS v ++ (⟨#[46, 45, 61, 35]⟩ : ByteArray).extract q (q + 1)) ++ t) := fun t => rfl
          have n4 : (numS v ++ (⟨#[46, 45, 61, 35]⟩ : ByteArray).extract q (q + 1)).size ≤ 6 := by
            have := kindS_size q
            rw [ByteArray.size_append]
            show _ + (kindS q).size ≤ 6
            omega
          generalize numS v ++ (⟨#[46, 45, 61, 35]⟩ : ByteArray).extract q (q + 1) = T at *
          clear hM hB2 hs2 k2 hW2 y0 y1 HhO HN
          by_cases hA1 : A = -1
          · subst hA1
            have HW : Hid (wordS l k = T) := by
              show _ = _
              rw [HWd.out, if_pos rfl, Int.toNat_natCast, Int.toNat_natCast, HT.out, app_nil]
            go_wp2_with (at_builtin; go_must (refine wpList_append_str rfl _ _ rfl w.heap.size (.slice (some ⟨g, 0, none⟩) k cap) xs _ rfl rfl hO (by show Value.slice _ _ _ = _; simp) hWM (by omega) ?_); intro g6 cap6 w6 hO6 hB7)
            go_roundw
            case rel => exact ⟨⟨w6, hB6.trans hB7⟩, rfl, k + 1, by omega, by go_num, g6, cap6, rfl, by rw [HS.out, HW.out]; rw [HLn] at hO6; exact hO6⟩
            case measure => simp [intOf]; omega
          · obtain ⟨a, rfl⟩ := Int.eq_ofNat_of_zero_le (show 0 ≤ A by omega)
            have HA := fun w => itoa_any a (by omega) w
            have n6 := numS_size' a
            have HW : Hid (wordS l k = T ++ numS a) := by
              show _ = _
              rw [HWd.out, if_neg (by omega), Int.toNat_natCast, Int.toNat_natCast, Int.toNat_natCast, HT.out]
            go_wp2_with (first | (go_at_call 41; refine (HA _).mono ?_; rintro e w' ⟨rfl, rfl⟩) | (at_builtin; go_must (refine wpList_append_str rfl _ _ rfl w.heap.size (.slice (some ⟨g, 0, none⟩) k cap) xs _ rfl rfl hO (by show Value.slice _ _ _ = _; simp) hWM (by omega) ?_); intro g6 cap6 w6 hO6 hB7))
            go_roundw
            case rel => exact ⟨⟨w6, hB6.trans hB7⟩, rfl, k + 1, by omega, by go_num, g6, cap6, rfl, by rw [HS.out, HW.out]; rw [HLn] at hO6; exact hO6⟩
            case measure => simp [intOf]; omega
        · obtain rfl : k = K := by omega
          have hJ := stringsJoin_any g 0 cap ((List.range k).map (wordS l)) ⟨#[32]⟩ m.w (fun j x hx => by
            obtain ⟨h1, h2, h3⟩ := hO.cells
            rw [Nat.zero_add]
            refine h3 j (.string x) ?_
            unfold wl
            rw [List.getElem?_map] at hx ⊢
            cases hr : (List.range k)[j]? with
            | none => rw [hr] at hx; cases hx
            | some i => rw [hr] at hx; simp only [Option.map_some, Option.some.injEq] at hx ⊢; rw [hx]) hO.cells.1 (by simp; omega) (by have := hO.cells.2.1; rw [wl_len] at this; simpa using this) (by rw [wl_joinLen]; have := prStr_size l k; omega)
          rw [wl_join, List.length_map, List.length_range] at hJ
          go_wp2_with fail
          refine hJ.mono ?_
          rintro e w4 ⟨rfl, hB4⟩
          go_wp2_with fail
          go_ret
          exact ⟨by rw [HE.out]; rfl, below_more m.below hB4⟩
    · have HE := Lib.hid (fmtPr_badAll hA)
      rw [decide_eq_false hA] at hC
      go_enter Tryd.func30, Tryd.ntmps30
      go_wp2_with fail
      refine (hC (Later.refl w)).mono ?_
      rintro e w2 ⟨rfl, hB2⟩
      go_wp2_with fail
      go_ret
      exact ⟨by rw [HE.out]; rfl, hB2⟩
  · have d7 : decide ((7 : Int) < (K : Int)) = true := decide_eq_true (by omega)
    have HE := Lib.hid (fmtPr_long (l := l) h7)
    go_enter Tryd.func30, Tryd.ntmps30
    go_wp2_with fail
    go_ret
    exact ⟨by rw [HE.out]; rfl, Below.refl _ _⟩

end Go.Proofs.YtgklgheaojoimaaDoor
