/-
  The walks of the laws' helpers on Graph: szGraph, toGraph, eqGraph. The rows are at most 2^20 where copies are made.
  The walks of the laws' helpers that write into results and read them again: markIntS, heldIntS. For lists of at most 2^20 elements.
  The walks of l3Grow, PartsOf of the reference and of partOf, parts, PartsOf of the program. The graph is right, the set is one of it.
-/
import Derived.Test.YtgklgheaojoimaaPkLawStrong02
import Derived.Test.YtgklgheaojoimaaPkLawStrong07
import Derived.Test.YtgklgheaojoimaaPkLawStrong06
namespace Go.Proofs.Ytgklgheaojoimaa
open Go.RowKit

def szOne (n : Nat) : Int := if 1048576 < n then -1 else 1048576 - n




end Go.Proofs.Ytgklgheaojoimaa

namespace Go.Proofs.Ytgklgheaojoimaa
open Go.RowKit

theorem wpList_append_cp {ops : Array Oper} {rest : List Oper} {o : Oper} {a : Act} {Q : Exit → Act → World → Prop} {w : World} (hgd : o.guard = none) (s x : Operand)
    (ho : o.op = .call { callee := .builtin .append, args := #[s, x], argTypes := #[24, 24] })
    (base B : Nat) (la : Addr) (l : List Int) (lc : Nat) (hs : a.eval s = .slice (some ⟨B, 0, none⟩) 0 0) (hx : a.eval x = .slice (some la) l.length lc) (hi : IntsAt w (some la) l) (hbase : base ≤ w.heap.size) (hlen : l.length ≤ 1048576)
    (h : ∀ ao' cap' w', ao' ≠ none → OwnE w' base ao' cap' l → Below w.heap.size w w' → wpList Try.prog ops Q rest (a.put o.dst (.slice ao' l.length cap')) w') : wpList Try.prog ops Q (o :: rest) a w :=
  wpList_plain hgd fun _ hK => wp_append_copy s x ho base B la l lc hs hx hi hbase hlen fun ao' cap' w' h1 h2 h3 => hK _ _ (h ao' cap' w' h1 h2 h3)
theorem OwnE.room' {w : World} {base cap : Nat} {ao : Option Addr} {xs : List Int} (h : OwnE w base ao cap xs) : xs.length ≤ cap := by
  rcases h with ⟨hl, ⟨h1, h2⟩ | ⟨g, cp, cur, hv, hg, hb, hn, hm, hsz, ht⟩⟩ | ⟨rfl, -, -⟩
  · omega
  · simp only [Value.slice.injEq] at hv
    omega
  · simp
theorem OwnE.mono' {w : World} {base base' cap : Nat} {ao : Option Addr} {xs : List Int} (h : OwnE w base ao cap xs) (hb : base' ≤ base) : OwnE w base' ao cap xs := h.imp (fun h => h.mono hb) id

/-- A row of integers: block g begins with xs, nothing frozen. -/
def RowAt (w : World) (g cap : Nat) (xs : List Int) : Prop := ∃ cur, Blk w g cur 3 ∧ xs.length ≤ cap ∧ cap ≤ maxLen ∧ cur.size = cap * 1 ∧ cur.toList.take (xs.length * 1) = xs.map (Value.int .i64)
theorem RowAt.cell {w : World} {g cap : Nat} {xs : List Int} (h : RowAt w g cap xs) (k : Nat) (hk : k < xs.length) : w.cell? ⟨g, k, none⟩ = some (.int .i64 (gi xs k)) := by
  obtain ⟨cur, hb, hn, hm, hs, ht⟩ := h
  rw [hb.cell]
  have e : (cur.toList.take (xs.length * 1))[k]? = (xs.map (Value.int .i64))[k]? := by rw [ht]
  rw [List.getElem?_take, if_pos (by omega), Array.getElem?_toList] at e
  rw [e]; simp [gi, hk]
theorem RowAt.frozen {w : World} {g cap : Nat} {xs : List Int} (h : RowAt w g cap xs) (k : Nat) : w.frozen? ⟨g, k, none⟩ = false := by obtain ⟨cur, hb, _⟩ := h; exact hb.frozen k
theorem RowAt.lt {w : World} {g cap : Nat} {xs : List Int} (h : RowAt w g cap xs) : g < w.heap.size := by obtain ⟨cur, hb, _⟩ := h; exact hb.lt
theorem RowAt.store {w : World} {g cap : Nat} {xs : List Int} (h : RowAt w g cap xs) (k : Nat) (x : Int) : RowAt (w.setCell ⟨g, k, none⟩ (.int .i64 x)) g cap (xs.set k x) := by
  obtain ⟨cur, hb, hn, hm, hs, ht⟩ := h
  refine ⟨_, hb.store k _, by simpa using hn, hm, by simpa using hs, ?_⟩
  rw [Array.toList_setIfInBounds, List.length_set, List.take_set, ht, List.map_set]
theorem RowAt.of {w : World} {b : Nat} {xs : List Int} (h : OwnInts w b xs) (hn : xs.length ≤ 1048576) : RowAt w b xs.length xs :=
  ⟨_, h, Nat.le_refl _, by unfold maxLen; omega, by rw [intRow_size, Nat.mul_one], by simp only [intRow, Nat.mul_one]; exact List.take_of_length_le (by simp)⟩
theorem OwnE.row {w : World} {base cap : Nat} {ao : Option Addr} {xs : List Int} (h : OwnE w base ao cap xs) (h0 : 0 < xs.length) : ∃ g, ao = some ⟨g, 0, none⟩ ∧ base ≤ g ∧ RowAt w g cap xs := by
  rcases h with ⟨hl, ⟨h1, h2⟩ | ⟨g, cp, cur, hv, hg, hb, hn, hm, hsz, ht⟩⟩ | ⟨rfl, -, -⟩
  · omega
  · simp only [Value.slice.injEq] at hv
    obtain ⟨rfl, -, rfl⟩ := hv
    exact ⟨g, rfl, hg, cur, hb, hn, hm, hsz, ht⟩
  · simp at h0
theorem RowAt.own {w : World} {base g cap : Nat} {xs : List Int} (h : RowAt w g cap xs) (hb : base ≤ g) : OwnE w base (some ⟨g, 0, none⟩) cap xs := by
  obtain ⟨cur, h1, h2, h3, h4, h5⟩ := h
  exact .inl ⟨by simp, .inr ⟨g, cap, cur, rfl, hb, h1, h2, h3, h4, h5⟩⟩

theorem OwnE.onlyOne {w w' : World} {base cap b1 : Nat} {ao : Option Addr} {xs : List Int} (h : OwnE w base ao cap xs) (k : Only (fun b => b = b1) w.heap.size w w') (hb : b1 < base) : OwnE w' base ao cap xs := by
  rcases h with ⟨hl, h1 | ⟨g, cp, cur, hv, hg, hb, hr⟩⟩ | h
  · exact .inl ⟨hl, .inl h1⟩
  · exact .inl ⟨hl, .inr ⟨g, cp, cur, hv, hg, by rw [k.block g (Array.getElem?_eq_some_iff.1 hb).1 (fun e => by omega)]; exact hb, hr⟩⟩
  · exact .inr h

/-- The slice address ao reads as the integers xs, out of a block below B. -/
def IntsU (B : Nat) (w : World) (ao : Option Addr) (xs : List Int) : Prop :=
  0 < xs.length → ∃ b off, ao = some ⟨b, off, none⟩ ∧ b < B ∧ b < w.heap.size ∧ ∀ k, k < xs.length → w.cell? ⟨b, off + k, none⟩ = some (.int .i64 (gi xs k))
theorem IntsAt.upto {w : World} {ao : Option Addr} {xs : List Int} (h : IntsAt w ao xs) : IntsU w.heap.size w ao xs := fun h0 => by
  obtain ⟨b, off, h1, h2, h3⟩ := h h0
  exact ⟨b, off, h1, h2, h2, h3⟩
theorem IntsU.ints {B : Nat} {w : World} {ao : Option Addr} {xs : List Int} (h : IntsU B w ao xs) : IntsAt w ao xs := fun h0 => by
  obtain ⟨b, off, h1, _, h2, h3⟩ := h h0
  exact ⟨b, off, h1, h2, h3⟩
theorem IntsU.mono {B B' : Nat} {w : World} {ao : Option Addr} {xs : List Int} (h : IntsU B w ao xs) (hB : B ≤ B') : IntsU B' w ao xs := fun h0 => by
  obtain ⟨b, off, h1, h2, h3⟩ := h h0
  exact ⟨b, off, h1, by omega, h3⟩
theorem IntsU.below {B B' : Nat} {w w' : World} {ao : Option Addr} {xs : List Int} (h : IntsU B w ao xs) (hb : Below B' w w') (hB : B ≤ B') : IntsU B w' ao xs := fun h0 => by
  obtain ⟨b, off, h1, h2, h3, h4⟩ := h h0
  exact ⟨b, off, h1, h2, Nat.lt_of_lt_of_le h3 hb.size, fun k hk => by rw [hb.cell (p := ⟨b, off + k, none⟩) (Nat.lt_of_lt_of_le h2 hB)]; exact h4 k hk⟩
theorem IntsU.later {B : Nat} {W : World} {ao : Option Addr} {xs : List Int} (h : IntsU B W ao xs) (m : Later W) : IntsU B m.w ao xs := fun h0 => by
  obtain ⟨b, off, h1, h2, h3, h4⟩ := h h0
  exact ⟨b, off, h1, h2, Nat.lt_of_lt_of_le h3 m.size, fun k hk => by rw [m.below.cell (p := ⟨b, off + k, none⟩) h3]; exact h4 k hk⟩
theorem IntsU.only {B : Nat} {X : Nat → Prop} {w w' : World} {ao : Option Addr} {xs : List Int} (h : IntsU B w ao xs) (hb : Only X w.heap.size w w') (hX : ∀ b, b < B → ¬X b) : IntsU B w' ao xs := fun h0 => by
  obtain ⟨b, off, h1, h2, h3, h4⟩ := h h0
  exact ⟨b, off, h1, h2, Nat.lt_of_lt_of_le h3 hb.size, fun k hk => by rw [hb.cell (p := ⟨b, off + k, none⟩) h3 (hX b h2)]; exact h4 k hk⟩

/-- The marks 1, 2, .. -/
def marksL (n : Nat) : List Int := (List.range n).map fun i : Nat => (i : Int) + 1
theorem marksL_len (n : Nat) : (marksL n).length = n := by simp [marksL]
theorem marksL_at {n k : Nat} (h : k < n) : gi (marksL n) k = (k : Int) + 1 := by simp [marksL, gi, h]






end Go.Proofs.Ytgklgheaojoimaa

namespace Go.Proofs.Ytgklgheaojoimaa
open Go.RowKit

set_option maxHeartbeats 1000000 in
theorem l3Grow_any (rs : List Int) (X S : Nat) (ro : Option Addr) (rc : Nat) (w : World) (hr : IntsAt w ro rs) (hv : isGraphB rs.length rs = true) (hS : S < 2 ^ rs.length) (hX : subN X S) :
    Calls Try.prog 76 #[.agg #[.int .i64 rs.length, .slice ro rs.length rc], .int .i64 X, .int .i64 S] w fun e w' => e = .returned (.int .i64 (grow rs X S)) ∧ Below w.heap.size w w' := by
  have g := (VG.of hv).2
  have hg1 := g.pos
  have hg2 := g.le
  have hp := g.pow.1
  go_enter Try.func76, Try.ntmps76
  go_wp2_with fail
  generalize hW : w.alloc _ = W1
  obtain ⟨hB, -, k0⟩ := alloc1 hW
  replace hr := hr.below hB
  have hb0 := k0.lt
  have hc0 := k0.cell 0
  have hc1 := k0.cell 1
  simp at hc0 hc1
  clear hW k0
  have HhB := Lib.hid hB
  clear hB
  go_loopw [7, 8] (fun o i wr => (∃ m : Later W1, wr = m.w) ∧ ∃ k : Nat, k ≤ rs.length ∧ i = .int .i64 k ∧ o = .int .i64 (stepN rs S X k : Nat)) (fun _ i _ => rs.length - (intOf i).toNat)
  case atStart => exact ⟨⟨Later.refl _, rfl⟩, 0, by omega, rfl, rfl⟩
  case round =>
    obtain ⟨⟨m, rfl⟩, k, hk, rfl, rfl⟩ := hrel
    have hA : stepN rs S X k < 2 ^ rs.length := (stepN_sub hX k).lt hS
    by_cases hlt : k < rs.length
    · have hN : Hid (stepN rs S X (k + 1) = around rs (stepN rs S X k) &&& S) := rfl
      generalize stepN rs S X k = A at *
      have hq := around_lt g hA
      have ho := bits_and_nat (around rs A) S (by omega) (by omega)
      have hC := fun m : Later W1 => specAround_any rs A ro rc m.w (hr.later m) hv hA
      generalize around rs A = B at *
      go_wp2_with (first | (go_at_call 124; refine (Calls.later m (hC _)).mono ?_; rintro e w' ⟨rfl, m, rfl⟩))
      go_roundw
      case rel => exact ⟨⟨m, rfl⟩, k + 1, by omega, by go_num, by rw [hN.out]⟩
      case measure => simp [intOf]; omega
    · go_wp2_with fail
      go_ret
      obtain rfl : k = rs.length := by omega
      exact ⟨rfl, below_later HhB.out m⟩

theorem low_bit_fin : ∀ s : Fin 128, s.val ≠ 0 → bits .and .i64 (s.val : Int) (-(s.val : Int)) = ((2 ^ low s.val : Nat) : Int) := by decide +kernel
theorem low_bit {S : Nat} (hS : S < 128) (h0 : S ≠ 0) : bits .and .i64 (S : Int) (-(S : Int)) = ((2 ^ low S : Nat) : Int) := low_bit_fin ⟨S, hS⟩ h0

set_option maxHeartbeats 1000000 in
theorem partOf_any (rs : List Int) (X S : Nat) (ro : Option Addr) (rc : Nat) (w : World) (hr : IntsAt w ro rs) (hv : isGraphB rs.length rs = true) (hS : S < 2 ^ rs.length) (hX : subN X S) (h0 : 1 ≤ cnt X) :
    Calls Try.prog 142 #[.agg #[.int .i64 rs.length, .slice ro rs.length rc], .int .i64 S, .int .i64 X] w fun e w' => e = .returned (.int .i64 (grow rs X S)) ∧ Below w.heap.size w w' := by
  have g := (VG.of hv).2
  have hg1 := g.pos
  have hg2 := g.le
  have hp := g.pow.1
  go_enter Try.func142, Try.ntmps142
  go_wp2_with fail
  generalize hW : w.alloc _ = W1
  obtain ⟨hB, -, k0⟩ := alloc1 hW
  replace hr := hr.below hB
  have hb0 := k0.lt
  have hc0 := k0.cell 0
  have hc1 := k0.cell 1
  simp at hc0 hc1
  clear hW k0
  have HhB := Lib.hid hB
  clear hB
  go_loopw [2] (fun o wr => (∃ m : Later W1, wr = m.w) ∧ ∃ k : Nat, o = .int .i64 (stepN rs S X k : Nat)) (fun o _ => 128 - (intOf o).toNat)
  case atStart => exact ⟨⟨Later.refl _, rfl⟩, 0, rfl⟩
  case round =>
    obtain ⟨⟨m, rfl⟩, k, rfl⟩ := hrel
    have hA : stepN rs S X k < 2 ^ rs.length := (stepN_sub hX k).lt hS
    have hN : Hid (stepN rs S X (k + 1) = around rs (stepN rs S X k) &&& S) := rfl
    have hU : Hid (stepN rs S X k ≤ around rs (stepN rs S X k) &&& S) := Lib.hid (sub_step (by omega) (stepN_sub hX k)).le
    have hF : Hid (around rs (stepN rs S X k) &&& S = stepN rs S X k → stepN rs S X k = grow rs X S) := Lib.hid (grow_of_fix g hS hX h0)
    generalize stepN rs S X k = A at *
    have hq := around_lt g hA
    have hq2 := nbrs_lt g hA
    have h1 : bits .or .i64 (A : Int) (nbrs rs A : Int) = (around rs A : Int) := bits_or_nat _ _ (by omega) (by omega)
    have ho := bits_and_nat (around rs A) S (by omega) (by omega)
    have hC := fun m : Later W1 => implNeighbors_any rs A ro rc m.w (hr.later m) g hA
    have hB : around rs A &&& S < 128 := Nat.lt_of_le_of_lt Nat.and_le_right (by omega)
    generalize around rs A &&& S = B at *
    generalize around rs A = C at *
    generalize nbrs rs A = D at *
    by_cases he : B = A
    · have hb : ((B : Int) == A) = true := by rw [he]; simp
      have he' := Lib.hid he
      clear he
      go_wp2_with (first | (go_at_call 144; refine (Calls.later m (hC _)).mono ?_; rintro e w' ⟨rfl, m, rfl⟩))
      go_ret
      exact ⟨retI (by rw [hF.out he'.out]), below_later HhB.out m⟩
    · have hb : ((B : Int) == A) = false := by rw [beq_eq_false_iff_ne]; omega
      have hU' := hU.out
      go_wp2_with (first | (go_at_call 144; refine (Calls.later m (hC _)).mono ?_; rintro e w' ⟨rfl, m, rfl⟩))
      go_roundw
      case rel => exact ⟨⟨m, rfl⟩, k + 1, by rw [hN.out]⟩
      case measure => simp [intOf]; omega

def ints (l : List Nat) : List Int := l.map Int.ofNat
theorem ints_len (l : List Nat) : (ints l).length = l.length := by simp [ints]
theorem ints_snoc (l : List Nat) (v : Nat) : ints (l ++ [v]) = ints l ++ [(v : Int)] := by simp [ints]

/-- What a call says that hands back a list of its own. -/
def RetE (w : World) (xs : List Int) (e : Ending) (w' : World) : Prop := ∃ ao cap, e = .returned (.slice ao xs.length cap) ∧ Below w.heap.size w w' ∧ OwnE w' w.heap.size ao cap xs


set_option maxHeartbeats 1000000 in
theorem implParts_any (rs : List Int) (S : Nat) (ro : Option Addr) (rc : Nat) (w : World) (hr : IntsAt w ro rs) (hv : isGraphB rs.length rs = true) (hS : S < 2 ^ rs.length) :
    Calls Try.prog 71 #[.agg #[.int .i64 rs.length, .slice ro rs.length rc], .int .i64 S] w (RetE w (ints (partsOf rs S))) := by
  have g := (VG.of hv).2
  have hg1 := g.pos
  have hg2 := g.le
  have hp := g.pow.1
  go_enter Try.func71, Try.ntmps71
  go_wp2_with fail
  generalize hW : (w.alloc _).alloc _ = W1
  obtain ⟨hB, hsz, k0, k1⟩ := alloc2 hW
  replace hr := hr.below hB
  have hb0 := k0.lt
  have hc0 := k0.cell 0
  have hc1 := k0.cell 1
  simp at hc0 hc1
  clear hW k0 k1
  have HhB := Lib.hid hB
  clear hB
  go_loopw [1, 5] (fun i o wr => ∃ m : Later W1, wr = m.w ∧ ∃ (done : List Nat) (left : Nat) (ao : Option Addr) (cap : Nat), PartsAt rs S done left ∧ i = .int .i64 left ∧ o = .slice ao (ints done).length cap ∧ OwnE m.w W1.heap.size ao cap (ints done)) (fun i _ _ => (intOf i).toNat)
  case atStart => exact ⟨Later.refl _, rfl, [], S, some ⟨w.heap.size + 1, 0, none⟩, 0, PartsAt.start rs S, rfl, rfl, OwnE.empty _ _ _⟩
  case round =>
    obtain ⟨m, rfl, done, left, ao, cap, hP, rfl, rfl, hO⟩ := hrel
    have hms := m.size
    have hll := hP.len
    rw [← ints_len] at hll
    by_cases h0 : left = 0
    · subst h0
      have hd := hP.done
      subst hd
      have HhP := Lib.hid hP
      clear hP
      have HhO := Lib.hid hO
      clear hO
      go_wp2_with fail
      go_ret
      exact ⟨ao, cap, rfl, below_later HhB.out m, HhO.out.mono' (by omega)⟩
    · have hlS := hP.shut.1.le
      have hl128 : left < 128 := by omega
      obtain ⟨l1, l2, l3⟩ := low_facts hl128 h0
      obtain ⟨n1, n2, n3, n6⟩ := hP.next g hS h0
      have hb1 := low_bit hl128 h0
      have hsl := pow_sub l1
      have hG := fun (w : World) (h : IntsAt w ro rs) => partOf_any rs (2 ^ low left) left ro rc w h hv (by omega) hsl (by rw [cnt_pow l2]; exact Nat.le_refl _)
      have hw := bits_andNot_nat left (grow rs (2 ^ low left) S) (by omega)
      have hlt : nDiff left (grow rs (2 ^ low left) S) < left := by
        have h1 := (nDiff_sub left (grow rs (2 ^ low left) S)).le
        have h2 : nDiff left (grow rs (2 ^ low left) S) ≠ left := fun e => by rw [e] at n3; omega
        omega
      rw [n6] at hG
      have hne : ((left : Int) != 0) = true := by simp; omega
      have HhP := Lib.hid hP
      clear hP
      have HhO := Lib.hid hO
      clear hO
      have Hn1 := Lib.hid n1
      clear n1
      generalize grow rs (2 ^ low left) S = x at *
      generalize nDiff left x = left' at *
      generalize 2 ^ low left = V at *
      have HW : ∀ m2 : Later m.w, ∃ m' : Later W1, m'.w = m2.w := fun m2 => ⟨m.on m2.below, rfl⟩
      replace hr := hr.later m
      replace hc0 : m.w.cell? _ = _ := (m.cell _ _ hb0).trans hc0
      replace hc1 : m.w.cell? _ = _ := (m.cell _ _ hb0).trans hc1
      replace hb0 := Nat.lt_of_lt_of_le hb0 m.size
      replace HhB := Lib.hid (below_later HhB.out m)
      generalize m.w = W2 at *
      clear m
      obtain ⟨m, hm0⟩ : ∃ m : Later W2, m.w = W2 := ⟨Later.refl _, rfl⟩
      refine (fun h => hm0 ▸ h) ?_
      clear hm0
      go_wp2_with (first | (go_at_call 142; refine (Calls.later m (hG _ (hr.later m))).mono ?_; rintro e w' ⟨rfl, m, rfl⟩) | (at_builtin; go_must (refine wpList_append_e rfl _ _ rfl W1.heap.size cap ao (ints done) (x : Int) rfl (HhO.out.later m) rfl (Nat.le_trans hms m.size) (by omega) ?_); intro ao2 cap2 w1 hown1 hB1))
      go_roundw
      case rel =>
        obtain ⟨m', hm'⟩ := HW m
        exact ⟨⟨w1, m'.below.trans (hm' ▸ hB1)⟩, rfl, done ++ [x], left', ao2, cap2, Hn1.out, rfl, by rw [ints_snoc]; simp, by rw [ints_snoc]; exact hown1⟩
      case measure => simp [intOf]; omega

end Go.Proofs.Ytgklgheaojoimaa
