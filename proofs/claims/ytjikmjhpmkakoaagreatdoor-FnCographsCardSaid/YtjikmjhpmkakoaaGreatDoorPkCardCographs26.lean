/-
  SimpleOrder of the reference. For at most 2^20 rows.
  TwinOrder of the reference. For at most 2^20 rows.
-/
import Derived.Test.YtjikmjhpmkakoaaGreatDoorPkCardCographs24
import Derived.Test.YtjikmjhpmkakoaaGreatDoorPkCardCographs04
import Derived.Test.YtjikmjhpmkakoaaGreatDoorPkCardCographs06
import Derived.Test.YtjikmjhpmkakoaaGreatDoorPkCardCographs13
import Derived.Deep.RegionHeld3
import Derived.Test.YtjikmjhpmkakoaaGreatDoorPkCardCographs19
namespace Go.Proofs.YtjikmjhpmkakoaaGreatDoor
open Go.RowKit

/-- The least simple vertex of what is left. -/
def leastB (rs : List Int) (S : Nat) : Option Nat := firstB (fun v => simpleB rs.length rs v S) rs.length
/-- The simple vertices, taken away one by one. -/
def ordF (rs : List Int) : Nat → Nat → List Int → Option (List Int)
  | 0, _, out => some out
  | f + 1, S, out => if S = 0 then some out else match leastB rs S with | none => none | some v => ordF rs f (S - 2 ^ v) (out ++ [(v : Int)])
def ordV (n : Int) (rs : List Int) : Option (List Int) := if isGraphB n rs = true then ordF rs (2 ^ rs.length - 1) (2 ^ rs.length - 1) [] else none
theorem ordV_of {n : Int} {rs : List Int} (h : isGraphB n rs = true) : ordV n rs = ordF rs (2 ^ rs.length - 1) (2 ^ rs.length - 1) [] := by unfold ordV; rw [if_pos h]
theorem ordF_zero {rs : List Int} (f : Nat) (out : List Int) : ordF rs f 0 out = some out := by cases f <;> rfl
theorem ordF_some {rs : List Int} {f S v : Nat} {out : List Int} (hS : S ≤ f) (h0 : 0 < S) (h : leastB rs S = some v) : ordF rs f S out = ordF rs (f - 1) (S - 2 ^ v) (out ++ [(v : Int)]) := by
  obtain ⟨f, rfl⟩ : ∃ f', f = f' + 1 := ⟨f - 1, by omega⟩
  show (if S = 0 then some out else _) = _
  rw [if_neg (by omega), h]; rfl
/-- A simple vertex is left. -/
theorem simple_left {rs : List Int} {S v : Nat} (h : simpleB rs.length rs v S = true) : S.testBit v = true ∧ 2 ^ v ≤ S := by
  unfold simpleB at h
  rw [Int.toNat_natCast, Int.toNat_natCast, hasN_nat] at h
  simp only [Bool.and_eq_true] at h
  exact ⟨h.2.2.1, Nat.ge_two_pow_of_testBit h.2.2.1⟩
theorem leastB_left {rs : List Int} {S v : Nat} (h : leastB rs S = some v) : v < rs.length ∧ S.testBit v = true ∧ 2 ^ v ≤ S ∧ 0 < 2 ^ v := by
  unfold leastB firstB at h
  have h1 := List.find?_some h
  have h2 := List.mem_of_find?_eq_some h
  exact ⟨by simpa using h2, (simple_left h1).1, (simple_left h1).2, Nat.two_pow_pos _⟩
/-- The least so far, from the top down to j. -/
def DownTo (p : Nat → Bool) (n j : Nat) (b : Int) : Prop := (b = -1 ∧ ∀ v, j ≤ v → v < n → p v = false) ∨ ∃ k : Nat, b = k ∧ j ≤ k ∧ k < n ∧ p k = true ∧ ∀ v, j ≤ v → v < k → p v = false
theorem DownTo.no {p : Nat → Bool} {n j : Nat} {b : Int} (h : DownTo p n (j + 1) b) (hp : p j = false) : DownTo p n j b := by
  have e : ∀ v, j ≤ v → v = j ∨ j + 1 ≤ v := fun v h => by omega
  rcases h with ⟨h1, h2⟩ | ⟨k, h1, h2, h3, h4, h5⟩
  · exact .inl ⟨h1, fun v a b => (e v a).elim (fun q => q ▸ hp) fun q => h2 v q b⟩
  · exact .inr ⟨k, h1, by omega, h3, h4, fun v a b => (e v a).elim (fun q => q ▸ hp) fun q => h5 v q b⟩
theorem DownTo.yes {p : Nat → Bool} {n j : Nat} (hj : j < n) (hp : p j = true) : DownTo p n j j := .inr ⟨j, rfl, Nat.le_refl _, hj, hp, fun v a b => by omega⟩
theorem DownTo.start (p : Nat → Bool) (n : Nat) : DownTo p n n (-1) := .inl ⟨rfl, fun v a b => by omega⟩
theorem DownTo.lo {p : Nat → Bool} {n j : Nat} {b : Int} (h : DownTo p n j b) : -1 ≤ b ∧ b < n + 1 := by
  rcases h with ⟨h1, -⟩ | ⟨k, h1, -, h3, -⟩ <;> omega


end Go.Proofs.YtjikmjhpmkakoaaGreatDoor

namespace Go.Proofs.YtjikmjhpmkakoaaGreatDoor
open Go.RowKit

/-- 'append(out, l...)' of a list of one number that stands wherever. -/
theorem wp_append_x {o : Oper} {a : Act} {K : Act → World → Prop} {Q : Exit → Act → World → Prop} {w : World} (s x : Operand)
    (ho : o.op = .call { callee := .builtin .append, args := #[s, x], argTypes := #[24, 24] })
    (base cap : Nat) (ao : Option Addr) (xs : List Int) (y : Int) (B off c : Nat) (hs : a.eval s = .slice ao xs.length cap) (hown : OwnE w base ao cap xs) (hx : a.eval x = .slice (some ⟨B, off, none⟩) 1 c)
    (hc : w.cell? ⟨B, off, none⟩ = some (.int .i64 y)) (hbase : base ≤ w.heap.size) (hlen : xs.length ≤ 1048576)
    (h : ∀ ao' cap' w', OwnE w' base ao' cap' (xs ++ [y]) → Below base w w' → K (a.put o.dst (.slice ao' (xs.length + 1) cap')) w') : o.wp Tryz.prog a w K Q := by
  have he : (xs ++ [y]).length = xs.length + 1 := by simp
  have hnews : ∀ j u, [Value.int .i64 y][j]? = some u → w.cell? ((⟨B, off, none⟩ : Addr).add j) = some u := by
    intro j u hj
    match j, hj with
    | 0, hj => simp at hj; subst hj; simpa [Addr.add] using hc
  have h1 : ∀ u ∈ [Value.int .i64 y], u.oneCell' = true := by intro u hu; simp at hu; subst hu; rfl
  obtain ⟨i0, hi, hz0, hz1, hz2⟩ := info_parts info_int
  rcases hown with hown | ⟨rfl, rfl, hne⟩
  · refine wp_append_own w s x 24 ho base 3 i0 (.int .i64 0) 1 8 Tryz.underlying24 hi hz0 hz1 hz2 rfl (by decide) (.slice ao xs.length cap) xs.length (xs.map (Value.int .i64)) hs hown
      ⟨B, off, none⟩ 1 c [.int .i64 y] hx rfl hnews h1 (by unfold maxLen; omega) (by omega) hbase ?_
    intro v' w' h1 h2 _
    have h3 : OwnL w' base v' (xs ++ [y]) := by unfold OwnL; simpa using h1
    obtain ⟨ao', cap', rfl⟩ := h3.form
    rw [he] at h3 ⊢
    refine h ao' cap' w' (.inl (by rw [he]; exact h3)) ?_
    exact (Below.refl base w).grown h2 hbase (fun k hk => (World.ownsRow.lt hown k hk).1)
  · obtain ⟨b, rfl⟩ := Option.ne_none_iff_exists'.1 hne
    obtain ⟨v', w', hrun, r1, r2⟩ := run_append_arg_grows (P := Tryz.prog) w 24 o.type 3 i0 (.int .i64 0) 1 8 Tryz.underlying24 hi hz0 hz1 hz2 rfl (by decide) b 0 0 [] rfl (by simp) ⟨B, off, none⟩ 1 c [.int .i64 y] rfl hnews (by omega) (by unfold maxLen; omega) (by omega)
    have h3 : OwnL w' base v' [y] := by
      have : OwnL w' w.heap.size v' [y] := by unfold OwnL; simpa using r1
      exact this.mono hbase
    obtain ⟨ao', cap', rfl⟩ := h3.form
    have hs' : a.eval s = .slice (some b) 0 0 := hs
    unfold Oper.wp
    simp only [execOp, ho, resolve, invoke, builtin, Sem.run_bind, Sem.run_pure, Result.andThen_ok, List.map_toArray, List.map_cons, List.map_nil, hs', hx, hrun]
    exact h ao' cap' w' (.inl h3) ((Below.refl base w).grown r2 hbase (fun k hk => by cases hk))
theorem wpList_append_x {ops : Array Oper} {rest : List Oper} {o : Oper} {a : Act} {Q : Exit → Act → World → Prop} {w : World} (hgd : o.guard = none) (s x : Operand)
    (ho : o.op = .call { callee := .builtin .append, args := #[s, x], argTypes := #[24, 24] })
    (base cap : Nat) (ao : Option Addr) (xs : List Int) (y : Int) (B off c : Nat) (hs : a.eval s = .slice ao xs.length cap) (hown : OwnE w base ao cap xs) (hx : a.eval x = .slice (some ⟨B, off, none⟩) 1 c)
    (hc : w.cell? ⟨B, off, none⟩ = some (.int .i64 y)) (hbase : base ≤ w.heap.size) (hlen : xs.length ≤ 1048576)
    (h : ∀ ao' cap' w', OwnE w' base ao' cap' (xs ++ [y]) → Below base w w' → wpList Tryz.prog ops Q rest (a.put o.dst (.slice ao' (xs.length + 1) cap')) w') :
    wpList Tryz.prog ops Q (o :: rest) a w :=
  wpList_plain hgd fun _ hK => wp_append_x s x ho base cap ao xs y B off c hs hown hx hc hbase hlen fun ao' cap' w' h2 h3 => hK _ _ (h ao' cap' w' h2 h3)

theorem one_listW {S : Nat} (h1 : cnt S = 1) {w : World} {ao : Option Addr} (hN : NatsAt w ao (els S)) : ∃ b off, ao = some ⟨b, off, none⟩ ∧ b < w.heap.size ∧ w.cell? ⟨b, off, none⟩ = some (.int .i64 (low S : Int)) := by
  have e : (els S).length = 1 := h1
  obtain ⟨b, off, h, hb, hc⟩ := hN (by omega)
  exact ⟨b, off, h, hb, hc 0 (by omega)⟩
theorem one_els {S : Nat} (h1 : cnt S = 1) : els S = [low S] := by
  have e : (els S).length = 1 := h1
  match h : els S, e with
  | [a], _ => show [a] = [eln (els S) 0]; rw [h]; rfl
/-- Is one of the first t vertices a twin of v? -/
def foundB (rs : List Int) (S v t : Nat) : Bool := decide (∃ w, w < t ∧ twB rs S v w = true)
theorem foundB_zero (rs : List Int) (S v : Nat) : foundB rs S v 0 = false := by unfold foundB; rw [decide_eq_false]; rintro ⟨w, h, -⟩; omega
theorem foundB_no {rs : List Int} {S v t : Nat} (h : twB rs S v t = false) : foundB rs S v (t + 1) = foundB rs S v t := by
  unfold foundB
  rw [Bool.eq_iff_iff, decide_eq_true_eq, decide_eq_true_eq]
  constructor
  · rintro ⟨w, h1, h2⟩
    by_cases e : w = t
    · subst e; rw [h] at h2; cases h2
    · exact ⟨w, by omega, h2⟩
  · rintro ⟨w, h1, h2⟩; exact ⟨w, by omega, h2⟩
theorem foundB_yes {rs : List Int} {S v t : Nat} (h : twB rs S v t = true) : foundB rs S v (t + 1) = true := by
  unfold foundB; rw [decide_eq_true_eq]; exact ⟨t, by omega, h⟩
theorem foundB_all (rs : List Int) (S v : Nat) : foundB rs S v rs.length = hasTw rs S v := rfl
theorem twDown {rs : List Int} {S : Nat} {b : Int} (h : DownTo (hasTw rs S) rs.length 0 b) : (b = -1 ∧ twNext rs S = none) ∨ ∃ k : Nat, b = k ∧ twNext rs S = some k := by
  rcases h with ⟨h1, h2⟩ | ⟨k, h1, h2, h3, h4, h5⟩
  · exact .inl ⟨h1, firstB_none fun j hj => h2 j (by omega) hj⟩
  · exact .inr ⟨k, h1, firstB_hit h3 (fun j hj => h5 j (by omega) hj) h4⟩
theorem twNext_left {rs : List Int} (g : VG rs) {S v : Nat} (hS : S < 2 ^ rs.length) (h : twNext rs S = some v) : v < rs.length ∧ S.testBit v = true ∧ 2 ^ v ≤ S ∧ 0 < 2 ^ v := by
  obtain ⟨h1, h2⟩ := firstB_some h
  obtain ⟨w, ht⟩ := (hasTw_iff g hS).1 h2
  exact ⟨h1, ht.1, Nat.ge_two_pow_of_testBit ht.1, Nat.two_pow_pos _⟩
/-- The twins as integers. -/
def twI (n : Int) (rs : List Int) : Option (List Int) := (twV n rs).map ints
theorem twI_no {n : Int} {rs : List Int} (h : isGraphB n rs = false) : twI n rs = none := by unfold twI; rw [twV_no h]; rfl
theorem orb2 {a b i : Nat} : (a ||| b).testBit i = true ↔ a.testBit i = true ∨ b.testBit i = true := by rw [Nat.testBit_or, Bool.or_eq_true]
theorem and_pair {S j t : Nat} : S &&& (2 ^ j ||| 2 ^ t) = 2 ^ j ||| 2 ^ t ↔ S.testBit j = true ∧ S.testBit t = true := by
  constructor
  · intro h
    have key : ∀ i, (2 ^ j ||| 2 ^ t).testBit i = true → S.testBit i = true := fun i hi => by
      rw [← h] at hi
      exact (and_bit.1 hi).1
    exact ⟨key j (orb2.2 (.inl (pow_bit.2 rfl))), key t (orb2.2 (.inr (pow_bit.2 rfl)))⟩
  · rintro ⟨h1, h2⟩
    refine Nat.eq_of_testBit_eq fun i => ?_
    rw [Nat.testBit_and]
    cases q : (2 ^ j ||| 2 ^ t).testBit i
    · simp
    · rw [pair_sub h1 h2 i q]; rfl
theorem twB_same (rs : List Int) (S v : Nat) : twB rs S v v = false := by unfold twB; rw [decide_eq_false (fun h => h rfl)]; rfl
theorem twB_out {rs : List Int} {S v w : Nat} (h : ¬(S.testBit v = true ∧ S.testBit w = true)) : twB rs S v w = false := by
  unfold twB
  rw [Bool.and_eq_false_iff, Bool.and_eq_false_iff]
  refine .inr (.inl ?_)
  rw [Bool.eq_false_iff]
  intro e
  rw [Bool.and_eq_true] at e
  exact h e
theorem twB_in {rs : List Int} {S v w : Nat} (hne : v ≠ w) (h1 : S.testBit v = true) (h2 : S.testBit w = true) : twB rs S v w = decide (gn rs v &&& (S - (2 ^ v ||| 2 ^ w)) = gn rs w &&& (S - (2 ^ v ||| 2 ^ w))) := by
  unfold twB
  rw [decide_eq_true hne, h1, h2, Bool.true_and, Bool.true_and, Bool.true_and]
theorem cnt_full {rs : List Int} (g : VG rs) : 1 ≤ cnt (2 ^ rs.length - 1) ∧ cnt (2 ^ rs.length - 1) ≤ 7 := by
  have hp := g.pow
  have h2 := cnt_zero (S := 2 ^ rs.length - 1) (by omega) (by omega)
  exact ⟨by omega, cnt_le _⟩

set_option maxRecDepth 100000 in
set_option maxHeartbeats 4000000 in
theorem specTw_any (n : Int) (rs : List Int) (ro : Option Addr) (rc : Nat) (w : World) (hr : IntsAt w ro rs) (hrl : rs.length ≤ 1048576) :
    Calls Tryz.prog 27 #[.agg #[.int .i64 n, .slice ro rs.length rc]] w (RetO w (twI n rs)) := by
  go_enter Tryz.func27, Tryz.ntmps27
  go_wp2_with fail
  generalize hW : w.alloc _ = W1
  obtain ⟨hB, -, k0⟩ := alloc1 hW
  replace hr := hr.below hB
  have hb0 := k0.lt
  have hc0 := k0.cell 0
  have hc1 := k0.cell 1
  simp at hc0 hc1
  clear hW k0
  have HhB := Lib.hid hB
  clear hB
  generalize hW2 : W1.alloc _ = W2
  obtain ⟨hB2, -, -⟩ := alloc1 hW2
  replace hr := hr.below hB2
  replace hc0 := (hB2.cell (p := ⟨w.heap.size, 0, none⟩) hb0).trans hc0
  replace hc1 := (hB2.cell (p := ⟨w.heap.size, 1, none⟩) hb0).trans hc1
  replace hb0 := Nat.lt_of_lt_of_le hb0 hB2.size
  replace HhB := Lib.hid (below_more' HhB.out hB2)
  clear hB2 hW2
  have hO := OwnE.empty W2 W2.heap.size ⟨w.heap.size + 1, 0, none⟩
  generalize (⟨w.heap.size + 1, 0, none⟩ : Addr) = na at *
  obtain ⟨m, hm0⟩ : ∃ m : Later W2, m.w = W2 := ⟨Later.refl _, rfl⟩
  refine (fun h => hm0 ▸ h) ?_
  clear hm0
  cases hv : isGraphB n rs
  · have HE := Lib.hid (twI_no hv)
    go_wp2_with fail
    refine (Calls.later m (specIsGraph_any n rs ro rc _ (hr.later m) hrl)).mono ?_
    rw [hv]
    rintro e w' ⟨rfl, m, rfl⟩
    go_wp2_with fail
    go_ret2
    exact ⟨_, _, by rw [HE.out]; rfl, below_later HhB.out m, by rw [HE.out]; exact OwnE.empty _ _ _⟩
  · have HE : Hid (twI n rs = (twV n rs).map ints) := rfl
    have Hhv := Lib.hid hv
    obtain ⟨rfl, g⟩ := VG.of hv
    have HEV := Lib.hid (twV_of hv)
    have hg1 := g.pos
    have hg2 := g.le
    obtain ⟨hp1, hp2⟩ := g.pow
    obtain ⟨ca1, ca2⟩ := cnt_full g
    have hp4 : 2 ^ rs.length - 1 < 2 ^ rs.length := by omega
    have Hcf := Lib.hid (cnt_leN (all_lt rs.length) g.le)
    generalize hFull : 2 ^ rs.length - 1 = full at *
    have hp3 : wrap64 (pwN rs.length - 1) = (full : Int) := by
      rw [pwN_small _ (by omega), show ((2 ^ rs.length : Nat) : Int) - 1 = (full : Int) by omega]
      simp only [wrap64]
      omega
    have HhO := Lib.hid hO
    clear hO
    have Hhp4 := Lib.hid hp4
    clear hp4
    go_wp2_with fail
    refine (Calls.later m (specIsGraph_any _ rs ro rc _ (hr.later m) hrl)).mono ?_
    rw [hv]
    rintro e w' ⟨rfl, m, rfl⟩
    go_wp2_with fail
    simp only [hp3]
    clear hp3
    go_loopw [4, 5] (fun o l wr => ∃ m : Later W2, wr = m.w ∧ ∃ (f S : Nat) (xs : List Nat) (ao : Option Addr) (cap : Nat), cnt S ≤ f ∧ S < 2 ^ rs.length ∧ xs.length + cnt S ≤ 7 ∧ 1 ≤ cnt S ∧ l = .int .i64 S ∧ o = .slice ao (ints xs).length cap ∧ OwnE m.w W2.heap.size ao cap (ints xs) ∧ twRun rs rs.length full [] = twRun rs f S xs) (fun _ l _ => cnt (intOf l).toNat)
    case atStart => exact ⟨m, rfl, rs.length, full, [], _, _, Hcf.out, Hhp4.out, by simp; omega, ca1, rfl, rfl, HhO.out.later m, rfl⟩
    case round =>
      obtain ⟨m, rfl, f, S, xs, ao, cap, hSf, hS, hlen, h1c, rfl, rfl, hO, hV⟩ := hrel
      have h7 : S < 128 := by omega
      have hC := fun m : Later m.w => specCount_any S h7 m.w
      have hcl := cnt_le S
      by_cases h0 : 1 < cnt S
      · have d0 : decide (1 < (cnt S : Int)) = true := decide_eq_true (by omega)
        have HW : ∀ m2 : Later m.w, ∃ m' : Later W2, m'.w = m2.w := fun m2 => ⟨m.on m2.below, rfl⟩
        have hms := m.size
        have HSh := Lib.hid hS
        have HhO := Lib.hid hO
        clear hO
        have HhV := Lib.hid hV
        clear hV
        have HhSf := Lib.hid hSf
        clear hSf
        have Hhlen := Lib.hid hlen
        clear hlen
        have HHW := Lib.hid HW
        clear HW
        have Hh1c := Lib.hid h1c
        clear h1c
        replace hr := hr.later m
        replace hc0 : m.w.cell? _ = _ := (m.cell _ _ hb0).trans hc0
        replace hc1 : m.w.cell? _ = _ := (m.cell _ _ hb0).trans hc1
        replace hb0 := Nat.lt_of_lt_of_le hb0 m.size
        replace HhB := Lib.hid (below_later HhB.out m)
        generalize m.w = W3 at *
        clear m
        obtain ⟨m, hm0⟩ : ∃ m : Later W3, m.w = W3 := ⟨Later.refl _, rfl⟩
        refine (fun h => hm0 ▸ h) ?_
        clear hm0
        go_wp2_with fail
        refine (Calls.later m (hC m)).mono ?_
        rintro e w' ⟨rfl, m, rfl⟩
        clear hC
        go_wp2_with fail
        go_loopw [6, 7] (fun b i wr => (∃ m : Later W3, wr = m.w) ∧ ∃ (j : Nat) (bi : Int), j ≤ rs.length ∧ i = .int .i64 ((j : Int) - 1) ∧ b = .int .i64 bi ∧ DownTo (hasTw rs S) rs.length j bi) (fun _ i _ => (intOf i + 1).toNat)
        case atStart => exact ⟨⟨m, rfl⟩, rs.length, -1, Nat.le_refl _, by go_num, rfl, DownTo.start _ _⟩
        case round =>
          obtain ⟨⟨m, rfl⟩, j, bi, hj, rfl, rfl, hD⟩ := hrel
          have hb1 := hD.lo
          rcases j with _ | j
          · rcases twDown hD with ⟨rfl, hL⟩ | ⟨k, rfl, hL⟩
            · have HE2 := Lib.hid (HE.out.trans (congrArg (Option.map ints) (HEV.out.trans (HhV.out.trans (by
                obtain ⟨f', rfl⟩ : ∃ f', f = f' + 1 := ⟨f - 1, by have := HhSf.out; omega⟩
                exact twRun_none (by omega) hL)))))
              clear hD hL
              go_wp2_with fail
              go_ret2
              exact ⟨_, _, by rw [HE2.out]; rfl, (below_later HhB.out m).alloc (below_later HhB.out m).size _, by rw [HE2.out]; exact OwnE.empty _ _ _⟩
            · obtain ⟨hk1, hk2, hk3, hk4⟩ := twNext_left g HSh.out hL
              have HN := Lib.hid (show twRun rs rs.length full [] = twRun rs (f - 1) (S - 2 ^ k) (xs ++ [k]) from HhV.out.trans (by
                obtain ⟨f', rfl⟩ : ∃ f', f = f' + 1 := ⟨f - 1, by have := HhSf.out; omega⟩
                exact twRun_some (by omega) hL))
              have hl7 : (ints xs).length ≤ 1048576 := by have := Hhlen.out; rw [ints_len]; omega
              have hms3 := m.size
              have hq : wrap64 ((S : Int) - pwN k) = ((S - 2 ^ k : Nat) : Int) := by
                rw [pwN_small _ (by omega), show (S : Int) - ((2 ^ k : Nat) : Int) = ((S - 2 ^ k : Nat) : Int) by omega]
                simp only [wrap64]
                omega
              obtain ⟨mf1, mf2⟩ := minus_facts g.le HSh.out hk2
              have hS2 : S - 2 ^ k < S := by omega
              generalize S - 2 ^ k = S2 at *
              clear hD hL hk2
              go_wp2_with (at_builtin; go_must (refine wpList_append_e rfl _ _ rfl W2.heap.size cap ao (ints xs) (k : Int) rfl (HhO.out.later m) rfl (by omega) (by omega) ?_); intro ao' cap' w1 hown1 hB1)
              rw [← ints_snoc] at hown1
              go_roundw
              case rel =>
                obtain ⟨m', e⟩ := HHW.out m
                exact ⟨⟨w1, m'.below.trans (e.symm ▸ hB1)⟩, rfl, f - 1, S2, xs ++ [k], ao', cap', by have := HhSf.out; omega, mf1, by have := Hhlen.out; simp; omega, by omega, by rw [hq], by simp [ints_len], hown1, HN.out⟩
              case measure => simp [intOf, hq]; omega
          · have hjl : j < rs.length := by omega
            have HNo := Lib.hid (fun h => DownTo.no hD h)
            have HYes := Lib.hid (fun h => DownTo.yes (p := hasTw rs S) hjl h)
            have hq : ((j + 1 : Nat) : Int) - 1 = (j : Int) := by omega
            have hq2 : IntKind.i64.wrap ((j : Int) - 1) = (j : Int) - 1 := IntKind_i64_in _ (by omega) (by omega)
            simp only [hq]
            clear hD
            obtain ⟨rb, rofs, hro, hrb, hrc⟩ := hr.graph g
            subst hro
            go_wp2_with fail
            go_loopw [6, 8] (fun b i wr => (∃ m : Later W3, wr = m.w) ∧ ∃ t : Nat, t ≤ rs.length ∧ i = .int .i64 t ∧ b = .int .i64 (cond (foundB rs S j t) (j : Int) bi)) (fun _ i _ => rs.length - (intOf i).toNat)
            case atStart => exact ⟨⟨m, rfl⟩, 0, by omega, rfl, by rw [foundB_zero]; rfl⟩
            case round =>
              obtain ⟨⟨m, rfl⟩, t, ht, rfl, rfl⟩ := hrel
              by_cases hlt : t < rs.length
              · have hor : bits .or .i64 (pwN j) (pwN t) = ((2 ^ j ||| 2 ^ t : Nat) : Int) := by
                  have h1 := Nat.pow_le_pow_right (n := 2) (by decide) (show j ≤ 6 by omega)
                  have h2 := Nat.pow_le_pow_right (n := 2) (by decide) (show t ≤ 6 by omega)
                  rw [pwN_small j (by omega), pwN_small t (by omega), bits_or_nat _ _ (by omega) (by omega)]
                have hor2 : bits .or .i64 ((2 : Int) ^ j) ((2 : Int) ^ t) = ((2 ^ j ||| 2 ^ t : Nat) : Int) := by rw [← hor, pwN_small j (by omega), pwN_small t (by omega)]; simp
                have hPR : 2 ^ j ||| 2 ^ t ≤ 127 := by
                  have h1 := Nat.pow_le_pow_right (n := 2) (by decide) (show j ≤ 6 by omega)
                  have h2 := Nat.pow_le_pow_right (n := 2) (by decide) (show t ≤ 6 by omega)
                  have := Nat.or_lt_two_pow (n := 7) (show 2 ^ j < 2 ^ 7 by omega) (show 2 ^ t < 2 ^ 7 by omega)
                  omega
                have hba : bits .and .i64 (S : Int) ((2 ^ j ||| 2 ^ t : Nat) : Int) = ((S &&& (2 ^ j ||| 2 ^ t) : Nat) : Int) := bits_and_nat _ _ (by omega) (by omega)
                have hcj := hrc j hjl
                have hct := hrc t hlt
                have HF0 := Lib.hid (fun h => foundB_no (rs := rs) (S := S) (v := j) (t := t) h)
                have HF1 := Lib.hid (fun h => foundB_yes (rs := rs) (S := S) (v := j) (t := t) h)
                generalize hbt : cond (foundB rs S j t) (j : Int) bi = bt at *
                have hbtl : -1 ≤ bt ∧ bt < 8 := by rw [← hbt]; cases foundB rs S j t <;> simp <;> omega
                have Hhbt := Lib.hid hbt
                clear hbt
                by_cases hjt : j = t
                · have d3 : ((j : Int) != (t : Int)) = false := by subst hjt; simp
                  have hN := HF0.out (by subst hjt; exact twB_same rs S j)
                  have HN2 := Lib.hid (show cond (foundB rs S j (t + 1)) (j : Int) bi = bt by rw [hN, Hhbt.out])
                  clear hjt hN HF0 HF1
                  go_wp2_with fail
                  refine wp_region_later m rfl (by kernel_rfl) (by kernel_rfl) ?_
                  repeat (go_big_quiet_step (fail))
                  refine wpQuiet_nil ?_
                  rintro _ ⟨m, rfl⟩
                  go_wp2_with fail
                  refine wp_region_later m rfl (by kernel_rfl) (by kernel_rfl) ?_
                  repeat (go_big_quiet_step (fail))
                  refine wpQuiet_nil ?_
                  rintro _ ⟨m, rfl⟩
                  go_wp2_with fail
                  go_roundw
                  case rel => exact ⟨⟨m, rfl⟩, t + 1, by omega, by go_num, by rw [HN2.out]⟩
                  case measure => simp [intOf]; omega
                · have d3 : ((j : Int) != (t : Int)) = true := by rw [bne_iff_ne]; omega
                  by_cases hin : S.testBit j = true ∧ S.testBit t = true
                  · have d4 : (((S &&& (2 ^ j ||| 2 ^ t) : Nat) : Int) == ((2 ^ j ||| 2 ^ t : Nat) : Int)) = true := by rw [and_pair.2 hin]; simp
                    have hsub := (pair_sub hin.1 hin.2).le
                    have hTB := twB_in (rs := rs) hjt hin.1 hin.2
                    have hgj := g.lt128 hjl
                    have hgt := g.lt128 hlt
                    have hba1 : bits .and .i64 (gn rs j : Int) ((S - (2 ^ j ||| 2 ^ t) : Nat) : Int) = ((gn rs j &&& (S - (2 ^ j ||| 2 ^ t)) : Nat) : Int) := bits_and_nat _ _ (by omega) (by omega)
                    have hba2 : bits .and .i64 (gn rs t : Int) ((S - (2 ^ j ||| 2 ^ t) : Nat) : Int) = ((gn rs t &&& (S - (2 ^ j ||| 2 ^ t)) : Nat) : Int) := bits_and_nat _ _ (by omega) (by omega)
                    have hsb : (S : Int) - ((2 ^ j ||| 2 ^ t : Nat) : Int) = ((S - (2 ^ j ||| 2 ^ t) : Nat) : Int) := by omega
                    clear hin hjt
                    generalize S - (2 ^ j ||| 2 ^ t) = M at *
                    generalize S &&& (2 ^ j ||| 2 ^ t) = SP at *
                    generalize 2 ^ j ||| 2 ^ t = PR at *
                    generalize gn rs j &&& M = X1 at *
                    generalize gn rs t &&& M = X2 at *
                    by_cases hX : X1 = X2
                    · have hX' : ((X1 : Int) == (X2 : Int)) = true := by rw [hX]; simp
                      rw [decide_eq_true hX] at hTB
                      have hN := HF1.out hTB
                      have HN2 := Lib.hid (show cond (foundB rs S j (t + 1)) (j : Int) bi = (j : Int) by rw [hN]; rfl)
                      clear hX hTB hN HF0 HF1
                      go_wp2_with fail
                      refine wp_region_later m rfl (by kernel_rfl) (by kernel_rfl) ?_
                      repeat (go_big_quiet_step (fail))
                      refine wpQuiet_nil ?_
                      rintro _ ⟨m, rfl⟩
                      go_wp2_with fail
                      refine wp_region_later m rfl (by kernel_rfl) (by kernel_rfl) ?_
                      repeat (go_big_quiet_step (fail))
                      refine wpQuiet_nil ?_
                      rintro _ ⟨m, rfl⟩
                      go_wp2_with fail
                      go_roundw
                      case rel => exact ⟨⟨m, rfl⟩, t + 1, by omega, by go_num, by rw [HN2.out]⟩
                      case measure => simp [intOf]; omega
                    · have hX' : ((X1 : Int) == (X2 : Int)) = false := by rw [beq_eq_false_iff_ne]; omega
                      rw [decide_eq_false hX] at hTB
                      have hN := HF0.out hTB
                      have HN2 := Lib.hid (show cond (foundB rs S j (t + 1)) (j : Int) bi = bt by rw [hN, Hhbt.out])
                      clear hX hTB hN HF0 HF1
                      go_wp2_with fail
                      refine wp_region_later m rfl (by kernel_rfl) (by kernel_rfl) ?_
                      repeat (go_big_quiet_step (fail))
                      refine wpQuiet_nil ?_
                      rintro _ ⟨m, rfl⟩
                      go_wp2_with fail
                      refine wp_region_later m rfl (by kernel_rfl) (by kernel_rfl) ?_
                      repeat (go_big_quiet_step (fail))
                      refine wpQuiet_nil ?_
                      rintro _ ⟨m, rfl⟩
                      go_wp2_with fail
                      go_roundw
                      case rel => exact ⟨⟨m, rfl⟩, t + 1, by omega, by go_num, by rw [HN2.out]⟩
                      case measure => simp [intOf]; omega
                  · have d4 : (((S &&& (2 ^ j ||| 2 ^ t) : Nat) : Int) == ((2 ^ j ||| 2 ^ t : Nat) : Int)) = false := by
                      rw [beq_eq_false_iff_ne]
                      exact fun e => hin (and_pair.1 (by exact Int.ofNat.inj e))
                    have hN := HF0.out (twB_out hin)
                    have HN2 := Lib.hid (show cond (foundB rs S j (t + 1)) (j : Int) bi = bt by rw [hN, Hhbt.out])
                    clear hin hjt hN HF0 HF1
                    generalize S &&& (2 ^ j ||| 2 ^ t) = SP at *
                    generalize 2 ^ j ||| 2 ^ t = PR at *
                    go_wp2_with fail
                    refine wp_region_later m rfl (by kernel_rfl) (by kernel_rfl) ?_
                    repeat (go_big_quiet_step (fail))
                    refine wpQuiet_nil ?_
                    rintro _ ⟨m, rfl⟩
                    go_wp2_with fail
                    refine wp_region_later m rfl (by kernel_rfl) (by kernel_rfl) ?_
                    repeat (go_big_quiet_step (fail))
                    refine wpQuiet_nil ?_
                    rintro _ ⟨m, rfl⟩
                    go_wp2_with fail
                    go_roundw
                    case rel => exact ⟨⟨m, rfl⟩, t + 1, by omega, by go_num, by rw [HN2.out]⟩
                    case measure => simp [intOf]; omega
              · obtain rfl : t = rs.length := by omega
                have HFA := Lib.hid (foundB_all rs S j)
                have hbtl : -1 ≤ cond (foundB rs S j rs.length) (j : Int) bi ∧ cond (foundB rs S j rs.length) (j : Int) bi < 8 := by cases foundB rs S j rs.length <;> simp <;> omega
                have HD2 : Hid (DownTo (hasTw rs S) rs.length j (cond (foundB rs S j rs.length) (j : Int) bi)) := Lib.hid (by
                  rw [HFA.out]
                  cases hh : hasTw rs S j
                  · exact HNo.out hh
                  · exact HYes.out hh)
                generalize cond (foundB rs S j rs.length) (j : Int) bi = bt at *
                go_wp2_with fail
                go_roundw
                case rel => exact ⟨⟨m, rfl⟩, j, bt, by omega, by go_num, rfl, HD2.out⟩
                case measure => simp [intOf]
      · have hone : cnt S = 1 := by omega
        have HE2 := Lib.hid (HE.out.trans (congrArg (Option.map ints) (HEV.out.trans (hV.trans (twRun_end (by omega))))))
        have d0 : decide (1 < (cnt S : Int)) = false := decide_eq_false (by omega)
        have hL := fun w2 : World => specListN_any S h7 w2
        rw [hone] at hL
        have HSo := Lib.hid (fun (w2 : World) (ao : Option Addr) (h : NatsAt w2 ao (els S)) => one_listW hone h)
        have hl7 : (ints xs).length ≤ 1048576 := by rw [ints_len]; omega
        have HEL : Hid (ints (xs ++ els S) = ints xs ++ [(low S : Int)]) := Lib.hid (by rw [one_els hone]; simp [ints])
        have HO := Lib.hid hO
        clear hV hO hone
        go_wp2_with fail
        refine (hC (Later.refl _)).mono ?_
        rintro e w6 ⟨rfl, hB6⟩
        have HO6 := Lib.hid (HO.out.below hB6)
        obtain ⟨m, rfl⟩ : ∃ m6 : Later W2, m6.w = w6 := ⟨m.on hB6, rfl⟩
        clear hC hB6
        go_wp2_with fail
        refine (hL m.w).mono ?_
        rintro e w7 ⟨lo, lc, rfl, hB7, hN⟩
        have HO7 := Lib.hid (HO6.out.below hB7)
        obtain ⟨b, off, rfl, hb, hcl⟩ := HSo.out _ _ hN
        obtain ⟨m, rfl⟩ : ∃ m6 : Later W2, m6.w = w7 := ⟨m.on hB7, rfl⟩
        have hms := m.size
        clear hL hB7 hN HSo
        generalize low S = v at *
        go_wp2_with (at_builtin; go_must (refine wpList_append_x rfl _ _ rfl W2.heap.size cap ao (ints xs) (v : Int) b off lc rfl HO7.out rfl hcl hms (by omega) ?_); intro ao' cap' w1 hown1 hB1)
        rw [← HEL.out] at hown1
        have hX := Lib.hid (hown1.mono' (base' := w.heap.size) HhB.out.size)
        have HBB := Lib.hid (HhB.out.trans ((m.below.trans hB1).mono HhB.out.size))
        have HLN : Hid ((ints (xs ++ els S)).length = (ints xs).length + 1) := Lib.hid (by rw [HEL.out]; simp)
        clear hown1 hB1
        go_wp2_with fail
        go_ret2
        exact ⟨ao', cap', by rw [HE2.out]; show _ = Ending.returned (.tuple #[.slice ao' (ints (xs ++ els S)).length cap', .bool true]); rw [HLN.out]; rfl, HBB.out, by rw [HE2.out]; exact hX.out⟩

end Go.Proofs.YtjikmjhpmkakoaaGreatDoor
