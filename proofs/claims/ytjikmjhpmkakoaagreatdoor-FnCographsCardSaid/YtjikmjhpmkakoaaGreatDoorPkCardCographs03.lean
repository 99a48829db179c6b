/-
  Sets of vertices of a graph that is right; the walks of IsSet, all, AroundSet, neighbors on both sides. The conditions: at most 2^20 rows; where it is said, the graph is right and the set is one of it.
-/
import Derived.Test.YtjikmjhpmkakoaaGreatDoorPkCardCographs02
namespace Go.Proofs.YtjikmjhpmkakoaaGreatDoor
open Go.RowKit

/-! ### Graphs that are right, in natural numbers -/
/-- Row v as a set of vertices. -/
def gn (rs : List Int) (v : Nat) : Nat := (gi rs v).toNat
structure VG (rs : List Int) : Prop where
  pos : 1 ≤ rs.length
  le : rs.length ≤ 7
  row : ∀ v, v < rs.length → gi rs v = (gn rs v : Int)
  lt : ∀ v, v < rs.length → gn rs v < 2 ^ rs.length
  irr : ∀ v, v < rs.length → (gn rs v).testBit v = false
  sym : ∀ v, v < rs.length → ∀ w, w < rs.length → (gn rs v).testBit w = (gn rs w).testBit v
theorem VG.of {n : Int} {rs : List Int} (h : isGraphB n rs = true) : n = rs.length ∧ VG rs := by
  obtain ⟨h0, h1, h2, h3, h4⟩ := isGraphB_true h
  have hr : ∀ v, v < rs.length → 0 ≤ gi rs v ∧ gi rs v < ((2 ^ rs.length : Nat) : Int) ∧ hasN (gi rs v) v = false := fun v hv => by
    have := h3 v hv
    unfold rowOk at this
    rw [pwN_small _ (by omega)] at this
    simpa [and_assoc] using this
  have hg : ∀ v, v < rs.length → gi rs v = (gn rs v : Int) := fun v hv => by unfold gn; have := (hr v hv).1; omega
  have hs : ∀ v, v < rs.length → ∀ w, w < v → (gn rs v).testBit w = (gn rs w).testBit v := fun v hv w hw => by
    have := h4 v hv w hw
    rwa [hg v hv, hg w (by omega), hasN_nat, hasN_nat] at this
  refine ⟨h0, h1, h2, hg, fun v hv => ?_, fun v hv => ?_, fun v hv w hw => ?_⟩
  · have := (hr v hv).2.1; rw [hg v hv] at this; omega
  · have := (hr v hv).2.2; rwa [hg v hv, hasN_nat] at this
  · rcases Nat.lt_trichotomy v w with h | h | h
    · exact (hs w hw v h).symm
    · rw [h]
    · exact hs v hv w h
theorem VG.lt128 {rs : List Int} (g : VG rs) {v : Nat} (hv : v < rs.length) : gn rs v < 128 :=
  Nat.lt_of_lt_of_le (g.lt v hv) (Nat.pow_le_pow_right (n := 2) (by decide) g.le)
theorem VG.pow {rs : List Int} (g : VG rs) : 2 ^ rs.length ≤ 128 ∧ 2 ≤ 2 ^ rs.length :=
  ⟨Nat.pow_le_pow_right (n := 2) (by decide) g.le, Nat.pow_le_pow_right (n := 2) (by decide) g.pos⟩
theorem IntsAt.graph {w : World} {ro : Option Addr} {rs : List Int} (h : IntsAt w ro rs) (g : VG rs) : ∃ b off, ro = some ⟨b, off, none⟩ ∧ b < w.heap.size ∧ ∀ k, k < rs.length → w.cell? ⟨b, off + k, none⟩ = some (.int .i64 (gn rs k : Int)) := by
  obtain ⟨b, off, h1, h2, h3⟩ := h g.pos
  exact ⟨b, off, h1, h2, fun k hk => by rw [← g.row k hk]; exact h3 k hk⟩

/-! ### The members of a set -/
def els (S : Nat) : List Nat := (List.range 7).filter S.testBit
def elsTo (S k : Nat) : List Nat := (List.range k).filter S.testBit
theorem elsTo_yes {S k : Nat} (h : S.testBit k = true) : elsTo S (k + 1) = elsTo S k ++ [k] := by unfold elsTo; rw [List.range_succ, List.filter_append]; simp [h]
theorem elsTo_no {S k : Nat} (h : S.testBit k = false) : elsTo S (k + 1) = elsTo S k := by unfold elsTo; rw [List.range_succ, List.filter_append]; simp [h]
theorem mem_elsTo {S k v : Nat} : v ∈ elsTo S k ↔ v < k ∧ S.testBit v = true := by simp [elsTo]
theorem testBit_ge {S N v : Nat} (h : S < 2 ^ N) (hv : N ≤ v) : S.testBit v = false := Nat.testBit_lt_two_pow (Nat.lt_of_lt_of_le h (Nat.pow_le_pow_right (by decide) hv))
theorem testBit_lt {S N v : Nat} (h : S < 2 ^ N) (hv : S.testBit v = true) : v < N := by
  rcases Nat.lt_or_ge v N with h' | h'
  · exact h'
  · rw [testBit_ge h h'] at hv; cases hv
theorem elsTo_more {S N k : Nat} (h : S < 2 ^ N) (hk : N ≤ k) : elsTo S k = elsTo S N := by
  obtain ⟨j, rfl⟩ : ∃ j, k = N + j := ⟨k - N, by omega⟩
  clear hk
  induction j with
  | zero => rfl
  | succ j ih => rw [← Nat.add_assoc, elsTo_no (testBit_ge h (by omega)), ih]
theorem els_eq {S N : Nat} (h : S < 2 ^ N) (hN : N ≤ 7) : els S = elsTo S N := by rw [← elsTo_more h hN]; rfl
theorem mem_els {S N v : Nat} (h : S < 2 ^ N) (hN : N ≤ 7) : v ∈ els S ↔ S.testBit v = true := by
  rw [els_eq h hN, mem_elsTo]
  exact ⟨fun h => h.2, fun h' => ⟨testBit_lt h h', h'⟩⟩
theorem listOf_nat {S : Nat} (h : S < 128) : listOf (S : Int) = (els S).map Int.ofNat := by
  unfold listOf
  rw [if_pos ⟨by omega, by omega⟩]
  unfold listUpto els
  congr 1
  apply List.filter_congr
  intro v _
  exact hasN_nat S v
theorem els_len (S : Nat) : (els S).length ≤ 7 := by unfold els; exact Nat.le_trans (List.length_filter_le _ _) (by simp)
/-- How many vertices a set has. -/
def cnt (S : Nat) : Nat := (els S).length
theorem listOf_length {S : Nat} (h : S < 128) : (listOf (S : Int)).length = cnt S := by rw [listOf_nat h, List.length_map]; rfl
theorem cnt_le (S : Nat) : cnt S ≤ 7 := els_len S
/-- Place k of a list of vertices. -/
def eln (l : List Nat) (k : Nat) : Nat := l.getD k 0
theorem gi_map (l : List Nat) (k : Nat) (hk : k < l.length) : gi (l.map Int.ofNat) k = (eln l k : Int) := by simp [gi, eln, hk]
theorem eln_mem {l : List Nat} {k : Nat} (hk : k < l.length) : eln l k ∈ l := by simp [eln, hk]
theorem take_eln {l : List Nat} {k : Nat} (hk : k < l.length) : l.take (k + 1) = l.take k ++ [eln l k] := by
  rw [List.take_succ_eq_append_getElem hk]; simp [eln, hk]

/-! ### Neighbours of a set -/
def orRows (rs : List Int) (l : List Nat) : Nat := l.foldl (fun a v => a ||| gn rs v) 0
theorem orRows_snoc (rs : List Int) (l : List Nat) (v : Nat) : orRows rs (l ++ [v]) = orRows rs l ||| gn rs v := by simp [orRows]
theorem foldOr_lt {rs : List Int} (g : VG rs) {l : List Nat} (h : ∀ v ∈ l, v < rs.length) : ∀ a, a < 2 ^ rs.length → l.foldl (fun a v => a ||| gn rs v) a < 2 ^ rs.length := by
  induction l with
  | nil => exact fun a ha => ha
  | cons v l ih => exact fun a ha => ih (fun u hu => h u (by simp [hu])) _ (Nat.or_lt_two_pow ha (g.lt v (h v (by simp))))
theorem orRows_lt {rs : List Int} (g : VG rs) {l : List Nat} (h : ∀ v ∈ l, v < rs.length) : orRows rs l < 2 ^ rs.length := foldOr_lt g h 0 (Nat.two_pow_pos _)
theorem testBit_foldOr (rs : List Int) (l : List Nat) (i : Nat) : ∀ a, (l.foldl (fun a v => a ||| gn rs v) a).testBit i = (a.testBit i || l.any fun v => (gn rs v).testBit i) := by
  induction l with
  | nil => simp
  | cons v l ih => intro a; rw [List.foldl_cons, ih, Nat.testBit_or]; simp [Bool.or_assoc]
theorem testBit_orRows (rs : List Int) (l : List Nat) (i : Nat) : (orRows rs l).testBit i = l.any fun v => (gn rs v).testBit i := by
  unfold orRows; rw [testBit_foldOr]; simp
def nbrs (rs : List Int) (S : Nat) : Nat := orRows rs (els S)
theorem nbrs_lt {rs : List Int} (g : VG rs) {S : Nat} (h : S < 2 ^ rs.length) : nbrs rs S < 2 ^ rs.length :=
  orRows_lt g fun _ hv => testBit_lt h ((mem_els h g.le).1 hv)
def around (rs : List Int) (S : Nat) : Nat := S ||| nbrs rs S
theorem around_lt {rs : List Int} (g : VG rs) {S : Nat} (h : S < 2 ^ rs.length) : around rs S < 2 ^ rs.length := Nat.or_lt_two_pow h (nbrs_lt g h)

/-! ### IsSet -/
def isSetB (n : Int) (rs : List Int) (s : Int) : Bool := isGraphB n rs && (decide (0 ≤ s) && decide (s < pwN rs.length))
theorem isSetB_true {n : Int} {rs : List Int} {s : Int} (h : isSetB n rs s = true) : n = rs.length ∧ VG rs ∧ ∃ S : Nat, s = S ∧ S < 2 ^ rs.length := by
  unfold isSetB at h
  simp only [Bool.and_eq_true, decide_eq_true_eq] at h
  obtain ⟨h1, h2, h3⟩ := h
  obtain ⟨h4, g⟩ := VG.of h1
  rw [pwN_small _ (by have := g.le; omega)] at h3
  obtain ⟨S, rfl⟩ := Int.eq_ofNat_of_zero_le h2
  exact ⟨h4, g, S, rfl, Int.ofNat_lt.1 h3⟩
theorem isSetB_mk {rs : List Int} {S : Nat} (h : isGraphB rs.length rs = true) (hS : S < 2 ^ rs.length) : isSetB rs.length rs S = true := by
  unfold isSetB
  rw [h, pwN_small _ (by have := (VG.of h).2.le; omega)]
  simp only [Bool.true_and, Bool.and_eq_true, decide_eq_true_eq]
  exact ⟨by omega, Int.ofNat_lt.2 hS⟩

set_option maxHeartbeats 1000000 in
theorem specIsSet_any (n : Int) (rs : List Int) (s : Int) (ro : Option Addr) (rc : Nat) (w : World) (hr : IntsAt w ro rs) (hrl : rs.length ≤ 1048576) :
    Calls Tryz.prog 103 #[.agg #[.int .i64 n, .slice ro rs.length rc], .int .i64 s] w fun e w' => e = .returned (.bool (isSetB n rs s)) ∧ Below w.heap.size w w' := by
  go_enter Tryz.func103, Tryz.ntmps103
  go_wp2_with fail
  generalize hW : w.alloc _ = W1
  obtain ⟨hB, -, k0⟩ := alloc1 hW
  replace hr := hr.below hB
  have hb0 := k0.lt
  have hc0 := k0.cell 0
  have hc1 := k0.cell 1
  simp at hc0 hc1
  clear hW k0
  have HhB := Lib.hid hB
  clear hB
  obtain ⟨m, hm0⟩ : ∃ m : Later W1, m.w = W1 := ⟨Later.refl _, rfl⟩
  refine (fun h => hm0 ▸ h) ?_
  clear hm0
  cases hv : isGraphB n rs
  · go_wp2_with (first | (go_at_call 12; refine (Calls.later m (specIsGraph_any _ _ _ _ _ (hr.later m) hrl)).mono ?_; rintro e w' ⟨rfl, m, rfl⟩))
    go_ret
    exact ⟨retB (by unfold isSetB; rw [hv]; rfl), below_later HhB.out m⟩
  · obtain ⟨rfl, g⟩ := VG.of hv
    have hg1 := g.pos
    have hg2 := g.le
    obtain ⟨hp1, hp2⟩ := pwN_pos rs.length hg2
    by_cases h0 : 0 ≤ s
    all_goals
      go_wp2_with (first | (go_at_call 12; refine (Calls.later m (specIsGraph_any _ _ _ _ _ (hr.later m) hrl)).mono ?_; rintro e w' ⟨rfl, m, rfl⟩))
      go_ret
    · exact ⟨retB (by unfold isSetB; rw [hv]; simp [h0]), below_later HhB.out m⟩
    · exact ⟨retB (by unfold isSetB; rw [hv, decide_eq_false (p := 0 ≤ s) (by omega)]; rfl), below_later HhB.out m⟩

theorem all_small {N : Nat} (h : N ≤ 7) : pwN N - 1 = ((2 ^ N - 1 : Nat) : Int) := by
  rw [pwN_small _ (by omega)]; have := Nat.two_pow_pos N; omega

/-- all, for a graph whose size is small. -/
theorem implAll_any (N : Nat) (r : Value) (hN : N ≤ 7) (w : World) :
    Calls Tryz.prog 46 #[.agg #[.int .i64 N, r]] w fun e w' => e = .returned (.int .i64 (2 ^ N - 1 : Nat)) ∧ Below w.heap.size w w' := by
  have hp := pwN_pos N hN
  refine (all_any N r (by omega) (by omega) w).mono fun e w' ⟨he, hb⟩ => ⟨?_, hb⟩
  rw [he, Int.toNat_natCast, IntWalk.wrap64_in _ ⟨by omega, by omega⟩, all_small hN]

set_option maxHeartbeats 1000000 in
theorem implIsSet_any (n : Int) (rs : List Int) (s : Int) (ro : Option Addr) (rc : Nat) (w : World) (hr : IntsAt w ro rs) (hrl : rs.length ≤ 1048576) :
    Calls Tryz.prog 105 #[.agg #[.int .i64 n, .slice ro rs.length rc], .int .i64 s] w fun e w' => e = .returned (.bool (isSetB n rs s)) ∧ Below w.heap.size w w' := by
  go_enter Tryz.func105, Tryz.ntmps105
  go_wp2_with fail
  generalize hW : w.alloc _ = W1
  obtain ⟨hB, -, k0⟩ := alloc1 hW
  replace hr := hr.below hB
  have hb0 := k0.lt
  have hc0 := k0.cell 0
  have hc1 := k0.cell 1
  simp at hc0 hc1
  clear hW k0
  have HhB := Lib.hid hB
  clear hB
  obtain ⟨m, hm0⟩ : ∃ m : Later W1, m.w = W1 := ⟨Later.refl _, rfl⟩
  refine (fun h => hm0 ▸ h) ?_
  clear hm0
  cases hv : isGraphB n rs
  · go_wp2_with (first | (go_at_call 45; refine (Calls.later m (implIsGraph_any _ _ _ _ _ (hr.later m) hrl)).mono ?_; rintro e w' ⟨rfl, m, rfl⟩))
    go_ret
    exact ⟨retB (by unfold isSetB; rw [hv]; rfl), below_later HhB.out m⟩
  · obtain ⟨rfl, g⟩ := VG.of hv
    have hg1 := g.pos
    have hg2 := g.le
    go_wp2_with (first | (go_at_call 45; refine (Calls.later m (implIsGraph_any _ _ _ _ _ (hr.later m) hrl)).mono ?_; rintro e w' ⟨rfl, m, rfl⟩) | (go_at_call 46; refine (Calls.later m (implAll_any _ _ hg2 _)).mono ?_; rintro e w' ⟨rfl, m, rfl⟩) | (go_at_call 59; refine (within_any _ _ _ _).mono ?_; rintro e w' ⟨rfl, rfl⟩))
    go_ret
    have e : decide (s < pwN rs.length) = decide (s ≤ ((2 ^ rs.length - 1 : Nat) : Int)) := by
      rw [← all_small hg2]; exact decide_eq_decide.2 (by omega)
    exact ⟨retB (by unfold isSetB; rw [hv, e]; rfl), below_later HhB.out m⟩

/-! ### AroundSet, neighbors -/
set_option maxHeartbeats 1000000 in
theorem specAround_any (rs : List Int) (S : Nat) (ro : Option Addr) (rc : Nat) (w : World) (hr : IntsAt w ro rs) (hv : isGraphB rs.length rs = true) (hS : S < 2 ^ rs.length) :
    Calls Tryz.prog 116 #[.agg #[.int .i64 rs.length, .slice ro rs.length rc], .int .i64 S] w fun e w' => e = .returned (.int .i64 (around rs S)) ∧ Below w.heap.size w w' := by
  have g := (VG.of hv).2
  have hg1 := g.pos
  have hg2 := g.le
  have hp := g.pow.1
  have hs := isSetB_mk hv hS
  go_enter Tryz.func116, Tryz.ntmps116
  go_wp2_with fail
  generalize hW : w.alloc _ = W1
  obtain ⟨hB, -, k0⟩ := alloc1 hW
  replace hr := hr.below hB
  have hb0 := k0.lt
  have hc0 := k0.cell 0
  have hc1 := k0.cell 1
  simp at hc0 hc1
  clear hW k0
  have HhB := Lib.hid hB
  clear hB
  obtain ⟨m, hm0⟩ : ∃ m : Later W1, m.w = W1 := ⟨Later.refl _, rfl⟩
  refine (fun h => hm0 ▸ h) ?_
  clear hm0
  go_wp2_with (first | (go_at_call 103; refine (Calls.later m (specIsSet_any _ _ _ _ _ _ (hr.later m) (by omega))).mono ?_; rintro e w' ⟨rfl, m, rfl⟩))
  go_loopw [5, 6] (fun o i wr => (∃ m : Later W1, wr = m.w) ∧ ∃ k : Nat, k ≤ rs.length ∧ i = .int .i64 k ∧ o = .int .i64 (S ||| orRows rs (elsTo S k) : Nat)) (fun _ i _ => rs.length - (intOf i).toNat)
  case atStart => exact ⟨⟨m, rfl⟩, 0, by omega, rfl, by simp [elsTo, orRows]⟩
  case round =>
    obtain ⟨⟨m, rfl⟩, k, hk, rfl, rfl⟩ := hrel
    have hA : S ||| orRows rs (elsTo S k) < 2 ^ rs.length := Nat.or_lt_two_pow hS (orRows_lt g fun v hv => by have := (mem_elsTo.1 hv).1; omega)
    by_cases hlt : k < rs.length
    · obtain ⟨rb, rofs, rfl, hrb, hrc⟩ := hr.graph g
      cases hb : S.testBit k
      · have hb' : hasN (S : Int) k = false := by rw [hasN_nat]; exact hb
        have HU := Lib.hid (elsTo_no hb)
        clear hb
        go_wp2_with fail
        go_roundw
        case rel => exact ⟨⟨m, rfl⟩, k + 1, by omega, by go_num, by rw [HU.out]⟩
        case measure => simp [intOf]; omega
      · have hb' : hasN (S : Int) k = true := by rw [hasN_nat]; exact hb
        have HU := Lib.hid (elsTo_yes hb)
        have ho : bits .or .i64 ((S ||| orRows rs (elsTo S k) : Nat) : Int) (gn rs k : Int) = ((S ||| orRows rs (elsTo S (k + 1)) : Nat) : Int) := by
          have := g.lt k hlt
          rw [bits_or_nat _ _ (by omega) (by omega), HU.out, orRows_snoc, Nat.or_assoc]
        clear hb
        generalize S ||| orRows rs (elsTo S k) = A at *
        generalize hN : S ||| orRows rs (elsTo S (k + 1)) = A' at *
        have HhN := Lib.hid hN
        clear hN
        go_wp2_with fail
        go_roundw
        case rel => exact ⟨⟨m, rfl⟩, k + 1, by omega, by go_num, by rw [HhN.out]⟩
        case measure => simp [intOf]; omega
    · go_wp2_with fail
      go_ret
      obtain rfl : k = rs.length := by omega
      exact ⟨retI (by unfold around nbrs; rw [els_eq hS hg2]), below_later HhB.out m⟩

/-- The slice address ao reads as the vertices l. -/
def NatsAt (w : World) (ao : Option Addr) (l : List Nat) : Prop :=
  0 < l.length → ∃ b off, ao = some ⟨b, off, none⟩ ∧ b < w.heap.size ∧ ∀ k, k < l.length → w.cell? ⟨b, off + k, none⟩ = some (.int .i64 (eln l k : Int))
theorem NatsAt.below {w w' : World} {ao : Option Addr} {l : List Nat} (h : NatsAt w ao l) (hb : Below w.heap.size w w') : NatsAt w' ao l := fun h0 => by
  obtain ⟨b, off, rfl, hlt, hc⟩ := h h0
  exact ⟨b, off, rfl, Nat.lt_of_lt_of_le hlt hb.size, fun k hk => by rw [hb.cell (p := ⟨b, off + k, none⟩) hlt]; exact hc k hk⟩
theorem NatsAt.later {W : World} {ao : Option Addr} {l : List Nat} (h : NatsAt W ao l) (m : Later W) : NatsAt m.w ao l := h.below m.below
theorem IntsAt.nats {w : World} {ao : Option Addr} {l : List Nat} (h : IntsAt w ao (l.map Int.ofNat)) : NatsAt w ao l := fun h0 => by
  obtain ⟨b, off, h1, h2, h3⟩ := h (by simpa using h0)
  exact ⟨b, off, h1, h2, fun k hk => by rw [← gi_map l k hk]; exact h3 k (by simpa using hk)⟩

theorem implListN_any (S : Nat) (h : S < 128) (w : World) : Calls Tryz.prog 47 #[.int .i64 S] w fun e w' => ∃ ao cap, e = .returned (.slice ao (cnt S) cap) ∧ Below w.heap.size w w' ∧ NatsAt w' ao (els S) :=
  (implListOf_any S w).mono fun e w' ⟨ao, cap, h1, h2, h3⟩ => ⟨ao, cap, by rw [h1, listOf_length h], h2, by have := h3.ints; rw [listOf_nat h] at this; exact this.nats⟩

theorem specListN_any (S : Nat) (h : S < 128) (w : World) : Calls Tryz.prog 64 #[.int .i64 S] w fun e w' => ∃ ao cap, e = .returned (.slice ao (cnt S) cap) ∧ Below w.heap.size w w' ∧ NatsAt w' ao (els S) :=
  (specListOf_any S w).mono fun e w' ⟨ao, cap, h1, h2, h3⟩ => ⟨ao, cap, by rw [h1, listOf_length h], h2, by have := h3.ints; rw [listOf_nat h] at this; exact this.nats⟩

theorem implCount_any (S : Nat) (h : S < 128) (w : World) : Calls Tryz.prog 81 #[.int .i64 S] w fun e w' => e = .returned (.int .i64 (cnt S)) ∧ Below w.heap.size w w' :=
  (implCountSet_any S w).mono fun e w' ⟨h1, h2⟩ => ⟨by rw [h1, listOf_length h], h2⟩

theorem specCount_any (S : Nat) (h : S < 128) (w : World) : Calls Tryz.prog 34 #[.int .i64 S] w fun e w' => e = .returned (.int .i64 (cnt S)) ∧ Below w.heap.size w w' :=
  (specCountSet_any S w).mono fun e w' ⟨h1, h2⟩ => ⟨by rw [h1, listOf_length h], h2⟩

/-- A member of a set's list. -/
theorem els_at {S N : Nat} (h : S < 2 ^ N) (hN : N ≤ 7) {k : Nat} (hk : k < cnt S) : eln (els S) k < N ∧ S.testBit (eln (els S) k) = true := by
  have hm := (mem_els h hN).1 (eln_mem (l := els S) hk)
  exact ⟨testBit_lt h hm, hm⟩

set_option maxHeartbeats 1000000 in
theorem implNeighbors_any (rs : List Int) (S : Nat) (ro : Option Addr) (rc : Nat) (w : World) (hr : IntsAt w ro rs) (g : VG rs) (hS : S < 2 ^ rs.length) :
    Calls Tryz.prog 108 #[.agg #[.int .i64 rs.length, .slice ro rs.length rc], .int .i64 S] w fun e w' => e = .returned (.int .i64 (nbrs rs S)) ∧ Below w.heap.size w w' := by
  have hg1 := g.pos
  have hg2 := g.le
  have hp := g.pow.1
  have hc7 := cnt_le S
  go_enter Tryz.func108, Tryz.ntmps108
  go_wp2_with fail
  generalize hW : w.alloc _ = W1
  obtain ⟨hB, -, k0⟩ := alloc1 hW
  replace hr := hr.below hB
  have hb0 := k0.lt
  have hc0 := k0.cell 0
  have hc1 := k0.cell 1
  simp at hc0 hc1
  clear hW k0
  have HhB := Lib.hid hB
  clear hB
  obtain ⟨m, hm0⟩ : ∃ m : Later W1, m.w = W1 := ⟨Later.refl _, rfl⟩
  refine (fun h => hm0 ▸ h) ?_
  clear hm0
  refine (implListN_any _ (by omega) _).mono ?_
  rintro e w2 ⟨lo, lc, rfl, hB2, hL⟩
  obtain ⟨m, rfl⟩ : ∃ m2 : Later W1, m2.w = w2 := ⟨m.on hB2, rfl⟩
  clear hB2 hc0
  replace hr := hr.later m
  replace hc1 : m.w.cell? _ = _ := (m.cell _ _ hb0).trans hc1
  replace hb0 := Nat.lt_of_lt_of_le hb0 m.size
  replace HhB := Lib.hid (below_later HhB.out m)
  generalize m.w = W2 at *
  clear m
  obtain ⟨m, hm0⟩ : ∃ m : Later W2, m.w = W2 := ⟨Later.refl _, rfl⟩
  refine (fun h => hm0 ▸ h) ?_
  clear hm0
  go_wp2_with fail
  go_loopw [5, 11] (fun o i wr => (∃ m : Later W2, wr = m.w) ∧ ∃ k : Nat, k ≤ cnt S ∧ i = .int .i64 k ∧ o = .int .i64 (orRows rs ((els S).take k) : Nat)) (fun _ i _ => cnt S - (intOf i).toNat)
  case atStart => exact ⟨⟨m, rfl⟩, 0, by omega, rfl, by simp [orRows]⟩
  case round =>
    obtain ⟨⟨m, rfl⟩, k, hk, rfl, rfl⟩ := hrel
    by_cases hlt : k < cnt S
    · obtain ⟨rb, rofs, rfl, hrb, hrc⟩ := hr.graph g
      obtain ⟨lb, lofs, rfl, hlb, hlc⟩ := hL (by unfold cnt at hlt; omega)
      obtain ⟨q2, q3⟩ := els_at hS hg2 hlt
      have hv := hlc k hlt
      have ho : bits .or .i64 (orRows rs ((els S).take k) : Int) (gn rs (eln (els S) k) : Int) = ((orRows rs ((els S).take (k + 1)) : Nat) : Int) := by
        have := g.lt _ q2
        have : orRows rs ((els S).take k) < 2 ^ rs.length := orRows_lt g fun v hv => testBit_lt hS ((mem_els hS hg2).1 (List.mem_of_mem_take hv))
        rw [bits_or_nat _ _ (by omega) (by omega), take_eln hlt, orRows_snoc]
      clear hlc q3
      generalize orRows rs ((els S).take k) = A at *
      generalize hN : orRows rs ((els S).take (k + 1)) = A' at *
      generalize eln (els S) k = v at *
      have HhN := Lib.hid hN
      clear hN
      go_wp2_with fail
      go_roundw
      case rel => exact ⟨⟨m, rfl⟩, k + 1, by omega, by go_num, by rw [HhN.out]⟩
      case measure => simp [intOf]; omega
    · go_wp2_with fail
      go_ret
      obtain rfl : k = cnt S := by omega
      exact ⟨retI (by unfold nbrs cnt; rw [List.take_of_length_le (Nat.le_refl _)]), below_later HhB.out m⟩


end Go.Proofs.YtjikmjhpmkakoaaGreatDoor
