/-
  FindStretched on both sides. For at most 2^20 rows.
  Graphs of at most six vertices: a set that hangs together and does not keep distances lies there exactly if there is an obstacle. No conditions beyond that.
-/
import Derived.Test.YtjikmjhpmkakoaaGreatDoorPkCardHereditary29
import Derived.Test.YtjikmjhpmkakoaaGreatDoorPkCardHereditary32
import Derived.Test.YtjikmjhpmkakoaaGreatDoorPkCardHereditary28
namespace Go.Proofs.YtjikmjhpmkakoaaGreatDoor
open Go.RowKit

/-- Does a set hang together and not keep distances? -/
def strP (rs : List Int) (S : Nat) : Bool := decide ((partsOf rs S).length = 1) && !keepB rs.length rs S
theorem strP_zero (rs : List Int) : strP rs 0 = false := by
  have : partsOf rs 0 = [] := partsF_nil rs 0 7
  unfold strP; rw [this]; rfl
theorem strP_of {rs : List Int} {S : Nat} {b c : Bool} (h1 : (((ints (partsOf rs S)).length : Int) == 1) = b) (h2 : keepB rs.length rs S = c) : strP rs S = (b && !c) := by
  unfold strP; rw [h2, ← h1, ints_len]; congr 1; rw [Bool.eq_iff_iff, decide_eq_true_eq, beq_iff_eq]; omega
def strO (n : Int) (rs : List Int) : Option Nat := leastO n rs (strP rs)

set_option maxRecDepth 100000 in
set_option maxHeartbeats 2000000 in
theorem specStretch_any (n : Int) (rs : List Int) (ro : Option Addr) (rc : Nat) (w : World) (hr : IntsAt w ro rs) (hrl : rs.length ≤ 1048576) :
    Calls Tryz.prog 10 #[.agg #[.int .i64 n, .slice ro rs.length rc]] w fun e w' => e = .returned (.tuple #[.int .i64 (leastI (strO n rs)), .bool (strO n rs).isSome]) ∧ Below w.heap.size w w' := by
  go_enter Tryz.func10, Tryz.ntmps10
  go_wp2_with fail
  generalize hW : w.alloc _ = W1
  obtain ⟨hB, -, k0⟩ := alloc1 hW
  replace hr := hr.below hB
  have hb0 := k0.lt
  have hc0 := k0.cell 0
  have hc1 := k0.cell 1
  simp at hc0 hc1
  clear hW k0
  have HhB := Lib.hid hB
  clear hB
  cases hv : isGraphB n rs
  · have HE : Hid (strO n rs = none) := Lib.hid (leastO_no hv)
    go_loopw [4] (fun i wr => (∃ m : Later W1, wr = m.w) ∧ i = .int .i64 1) (fun _ _ => 0)
    case atStart => exact ⟨⟨Later.refl _, rfl⟩, rfl⟩
    case round =>
      obtain ⟨⟨m, rfl⟩, rfl⟩ := hrel
      go_wp2_with (first | (go_at_call 12; refine (Calls.later m (specIsGraph_any _ _ _ _ _ (hr.later m) hrl)).mono ?_; rintro e w' ⟨rfl, m, rfl⟩))
      go_ret2
      exact ⟨by rw [HE.out]; rfl, below_later HhB.out m⟩
  · have HE : Hid (strO n rs = firstB (strP rs) (2 ^ rs.length)) := Lib.hid (leastO_of hv)
    obtain ⟨rfl, g⟩ := VG.of hv
    have hg1 := g.pos
    have hg2 := g.le
    obtain ⟨hp1, hp2⟩ := g.pow
    have hq := pwN_small rs.length (by omega)
    have hz := strP_zero rs
    have HS := Lib.hid (fun k b c => strP_of (rs := rs) (S := k) (b := b) (c := c))
    have HPa : Hid (∀ (S : Nat) (w : World), S < 2 ^ rs.length → IntsAt w ro rs → Calls Tryz.prog 53 #[.agg #[.int .i64 rs.length, .slice ro rs.length rc], .int .i64 S] w (RetE w (ints (partsOf rs S)))) := Lib.hid fun S w h1 h => specParts_any rs S ro rc w h hv h1
    generalize 2 ^ rs.length = T at *
    generalize strP rs = p at *
    go_loopw [4] (fun i wr => (∃ m : Later W1, wr = m.w) ∧ ∃ k : Nat, 1 ≤ k ∧ k ≤ T ∧ i = .int .i64 k ∧ ∀ j, j < k → p j = false) (fun i _ => T - (intOf i).toNat)
    case atStart => exact ⟨⟨Later.refl _, rfl⟩, 1, by omega, by omega, rfl, fun j h => by rw [show j = 0 by omega]; exact hz⟩
    case round =>
      obtain ⟨⟨m, rfl⟩, k, hk1, hk, rfl, hP⟩ := hrel
      have HhP := Lib.hid hP
      clear hP
      by_cases hlt : k < T
      · have HY := Lib.hid (fun h => all_succ (p := fun j => p j = false) HhP.out h)
        have HH := Lib.hid (fun h => firstB_hit (p := p) hlt HhP.out h)
        have hPa := fun m : Later W1 => HPa.out k m.w hlt (hr.later m)
        have hK := fun m : Later W1 => specKeeps_any rs.length rs k ro rc m.w (hr.later m) hrl
        replace HS := Lib.hid (HS.out k _ _ rfl rfl)
        have hl7 := partsOf_len rs k
        rw [← ints_len] at hl7
        generalize ints (partsOf rs k) = ps at *
        generalize keepB rs.length rs k = kb at *
        go_wp2_with (first | (go_at_call 12; refine (Calls.later m (specIsGraph_any _ _ _ _ _ (hr.later m) hrl)).mono ?_; rintro e w' ⟨rfl, m, rfl⟩))
        refine (hPa m).mono ?_
        rintro e w2 ⟨ao, cap, rfl, hB2, -⟩
        obtain ⟨m, rfl⟩ : ∃ m2 : Later W1, m2.w = w2 := ⟨m.on hB2, rfl⟩
        clear hB2 hPa
        cases h1 : ((ps.length : Int) == 1)
        · have HN := Lib.hid (HY.out (by rw [HS.out, h1]; rfl))
          go_wp2_with fail
          go_roundw
          case rel => exact ⟨⟨m, rfl⟩, k + 1, by omega, by omega, by go_num, HN.out⟩
          case measure => simp [intOf]; omega
        · cases h2 : kb <;> simp only [h2] at hK HS
          · have HN := Lib.hid (HH.out (by rw [HS.out, h1]; rfl))
            go_wp2_with (first | (go_at_call 19; refine (Calls.later m (hK _)).mono ?_; rintro e w' ⟨rfl, m, rfl⟩))
            go_ret2
            exact ⟨by rw [HE.out, HN.out]; rfl, below_later HhB.out m⟩
          · have HN := Lib.hid (HY.out (by rw [HS.out, h1]; rfl))
            go_wp2_with (first | (go_at_call 19; refine (Calls.later m (hK _)).mono ?_; rintro e w' ⟨rfl, m, rfl⟩))
            go_roundw
            case rel => exact ⟨⟨m, rfl⟩, k + 1, by omega, by omega, by go_num, HN.out⟩
            case measure => simp [intOf]; omega
      · have HN := Lib.hid (firstB_none (p := p) (n := T) (fun j h => HhP.out j (by omega)))
        go_wp2_with (first | (go_at_call 12; refine (Calls.later m (specIsGraph_any _ _ _ _ _ (hr.later m) hrl)).mono ?_; rintro e w' ⟨rfl, m, rfl⟩))
        go_ret2
        exact ⟨by rw [HE.out, HN.out]; rfl, below_later HhB.out m⟩

set_option maxRecDepth 100000 in
set_option maxHeartbeats 2000000 in
theorem stretchTest_any (rs : List Int) (ro : Option Addr) (rc : Nat) (hv : isGraphB rs.length rs = true) : TestOf 51 rs ro rc (strP rs) := by
  intro S w hr hS
  have g := (VG.of hv).2
  have hrl : rs.length ≤ 1048576 := by have := g.le; omega
  go_enter Tryz.func51, Tryz.ntmps51
  go_wp2_with fail
  generalize hW : w.alloc _ = W1
  obtain ⟨hB, -, k0⟩ := alloc1 hW
  replace hr := hr.below hB
  have hb0 := k0.lt
  have hc0 := k0.cell 0
  have hc1 := k0.cell 1
  simp at hc0 hc1
  clear hW k0
  have HhB := Lib.hid hB
  clear hB
  obtain ⟨m, hm0⟩ : ∃ m : Later W1, m.w = W1 := ⟨Later.refl _, rfl⟩
  refine (fun h => hm0 ▸ h) ?_
  clear hm0
  have HS := Lib.hid (strP_of (rs := rs) (S := S) rfl rfl)
  have hK := fun m : Later W1 => implKeeps_any rs.length rs S ro rc m.w (hr.later m) hrl
  have hl7 := partsOf_len rs S
  rw [← ints_len] at hl7
  refine (implParts_any rs S ro rc _ (hr.later m) hv hS).mono ?_
  rintro e w2 ⟨ao, cap, rfl, hB2, -⟩
  obtain ⟨m, rfl⟩ : ∃ m2 : Later W1, m2.w = w2 := ⟨m.on hB2, rfl⟩
  clear hB2
  generalize ints (partsOf rs S) = ps at *
  generalize keepB rs.length rs S = kb at *
  cases h1 : ((ps.length : Int) == 1)
  · go_wp2_with fail
    go_ret
    exact ⟨retB (by rw [HS.out, h1]; rfl), below_later HhB.out m⟩
  · go_wp2_with (first | (go_at_call 13; refine (Calls.later m (hK _)).mono ?_; rintro e w' ⟨rfl, m, rfl⟩))
    go_ret
    exact ⟨retB (by rw [HS.out, h1]; rfl), below_later HhB.out m⟩

set_option maxRecDepth 100000 in
theorem implStretch_any (n : Int) (rs : List Int) (ro : Option Addr) (rc : Nat) (w : World) (hr : IntsAt w ro rs) (hrl : rs.length ≤ 1048576) :
    Calls Tryz.prog 9 #[.agg #[.int .i64 n, .slice ro rs.length rc]] w fun e w' => e = .returned (.tuple #[.int .i64 (leastI (strO n rs)), .bool (strO n rs).isSome]) ∧ Below w.heap.size w w' := by
  go_enter Tryz.func9, Tryz.ntmps9
  go_wp2_with fail
  generalize hW : w.alloc _ = W1
  obtain ⟨hB, -, k0⟩ := alloc1 hW
  replace hr := hr.below hB
  have hb0 := k0.lt
  have hc0 := k0.cell 0
  have hc1 := k0.cell 1
  simp at hc0 hc1
  clear hW k0
  have HhB := Lib.hid hB
  clear hB
  obtain ⟨m, hm0⟩ : ∃ m : Later W1, m.w = W1 := ⟨Later.refl _, rfl⟩
  refine (fun h => hm0 ▸ h) ?_
  clear hm0
  go_wp2_with (first | (go_at_call 50; refine (Calls.later m (implLeast_any n rs ro rc 51 (strP rs) _ (hr.later m) hrl (fun _ _ => rfl) (fun hv => stretchTest_any rs ro rc hv))).mono ?_; rintro e w' ⟨rfl, m, rfl⟩))
  go_ret2
  exact ⟨rfl, below_later HhB.out m⟩

end Go.Proofs.YtjikmjhpmkakoaaGreatDoor

namespace Go.Proofs.YtjikmjhpmkakoaaGreatDoor
open Go.RowKit

/-- The distance from the head of the part. -/
theorem dist_headH {rs : List Int} (g : VG rs) {h v : Nat} (hh : h < rs.length) (hv : v < rs.length) (hr : (grow rs (2 ^ h) (2 ^ rs.length - 1)).testBit v = true) : ∃ n : Nat, distV rs h v = n ∧ (reach rs h n).testBit v = true ∧ ∀ j, j < n → (reach rs h j).testBit v = false := by
  have h128 := g.pow.1
  have hp := g.pos
  have hall := all_lt rs.length
  have hsub : subN (2 ^ h) (2 ^ rs.length - 1) := pow_sub (all_bit.2 hh)
  have hex : (reach rs h (rs.length - 1)).testBit v = true := by
    rcases stepN_cnt (rs := rs) (S := 2 ^ rs.length - 1) (X := 2 ^ h) (by omega) hsub (by rw [cnt_pow (by have := g.le; omega)]; exact Nat.le_refl _) (rs.length - 1) with h1 | h1
    · have h2 := stepN_stay h1 rs.length (by omega)
      have h3 : grow rs (2 ^ h) (2 ^ rs.length - 1) = reach rs h (rs.length - 1) := h2
      rw [← h3]; exact hr
    · have h2 : rs.length ≤ cnt (reach rs h (rs.length - 1)) := by
        have : rs.length - 1 + 1 ≤ cnt (reach rs h (rs.length - 1)) := h1
        omega
      have h3 : reach rs h (rs.length - 1) = 2 ^ rs.length - 1 := by
        refine Classical.byContradiction fun hne => ?_
        have h4 := cnt_lt (by omega) (sub_all (reach_lt hh (rs.length - 1))) hne
        have h5 := cnt_leN hall g.le
        omega
      rw [h3]; exact all_bit.2 hv
  unfold distV
  cases hf : firstB (fun n => (reach rs h n).testBit v) rs.length with
  | none =>
    exfalso
    unfold firstB at hf
    rw [List.find?_range_eq_none] at hf
    have := hf (rs.length - 1) (by omega)
    rw [hex] at this; cases this
  | some n =>
    unfold firstB at hf
    rw [List.find?_range_eq_some] at hf
    obtain ⟨h1, -, h3⟩ := hf
    exact ⟨n, rfl, h1, fun j hj => by simpa using h3 j hj⟩
/-- v is reached from u in at most n steps within S. -/
def rin (rs : List Int) (S : Nat) : Nat → Nat → Nat → Prop
  | 0, u, v => u = v
  | n + 1, u, v => rin rs S n u v ∨ ∃ x, S.testBit x = true ∧ rin rs S n u x ∧ ad rs x v = true
theorem rin_mono {rs : List Int} {S u v : Nat} : ∀ {n m : Nat}, n ≤ m → rin rs S n u v → rin rs S m u v := fun {n m} h hr => by
  induction m with
  | zero => rwa [show n = 0 by omega] at hr
  | succ m ih =>
    by_cases e : n = m + 1
    · rwa [e] at hr
    · exact .inl (ih (by omega))
theorem rin_trans {rs : List Int} {S u x : Nat} {n : Nat} (h : rin rs S n u x) : ∀ {m v : Nat}, rin rs S m x v → rin rs S (n + m) u v
  | 0, v, k => by cases k; exact h
  | m + 1, v, k => by
    rcases k with k | ⟨y, h1, h2, h3⟩
    · exact .inl (rin_trans h k)
    · exact .inr ⟨y, h1, rin_trans h h2, h3⟩
theorem rin_step {rs : List Int} {S u v : Nat} (hu : S.testBit u = true) (h : ad rs u v = true) : rin rs S 1 u v := .inr ⟨u, hu, rfl, h⟩
theorem rin_sub {rs : List Int} {S T u : Nat} (h : subN S T) : ∀ {n v : Nat}, rin rs S n u v → rin rs T n u v
  | 0, _, k => k
  | n + 1, v, k => by
    rcases k with k | ⟨y, h1, h2, h3⟩
    · exact .inl (rin_sub h k)
    · exact .inr ⟨y, h y h1, rin_sub h h2, h3⟩
theorem stepN_rin {rs : List Int} {S : Nat} (hS : S < 128) {u : Nat} (hu : S.testBit u = true) : ∀ n v, S.testBit v = true → ((stepN rs S (2 ^ u) n).testBit v = true ↔ rin rs S n u v)
  | 0, v, _ => pow_bit
  | n + 1, v, hv => by
    show (step rs S (stepN rs S (2 ^ u) n)).testBit v = true ↔ _
    have hsub := stepN_sub (rs := rs) (pow_sub hu) n
    rw [step_bit (stepN_lt (pow_sub hu) hS n), stepN_rin hS hu n v hv]
    constructor
    · rintro ⟨-, h | ⟨a, h1, h2⟩⟩
      · exact .inl h
      · exact .inr ⟨a, hsub a h1, (stepN_rin hS hu n a (hsub a h1)).1 h1, h2⟩
    · rintro (h | ⟨a, h0, h1, h2⟩)
      · exact ⟨hv, .inl h⟩
      · exact ⟨hv, .inr ⟨a, (stepN_rin hS hu n a h0).2 h1, h2⟩⟩
theorem reach_rin {rs : List Int} (g : VG rs) {v u n : Nat} (hv : v < rs.length) (hu : u < rs.length) : (reach rs v n).testBit u = true ↔ rin rs (2 ^ rs.length - 1) n v u :=
  stepN_rin (by have := g.pow.1; have := all_lt rs.length; omega) (all_bit.2 hv) n u (all_bit.2 hu)
theorem ad_ind {rs : List Int} {S i k : Nat} (hi : i < cnt S) (hk : k < cnt S) : ad (ind rs S) i k = ad rs (eln (els S) i) (eln (els S) k) := by
  unfold ad
  rw [ind_gn hi, indRow_bit, decide_eq_true hk, Bool.true_and]
theorem rin_ind {rs : List Int} {S : Nat} (h7 : rs.length ≤ 7) (hS : S < 2 ^ rs.length) {i : Nat} (hi : i < cnt S) : ∀ n k, k < cnt S → (rin (ind rs S) (2 ^ cnt S - 1) n i k ↔ rin rs S n (eln (els S) i) (eln (els S) k))
  | 0, k, hk => ⟨fun h => congrArg _ h, fun h => els_inj hi hk h⟩
  | n + 1, k, hk => by
    constructor
    · rintro (h | ⟨a, h0, h1, h2⟩)
      · exact .inl ((rin_ind h7 hS hi n k hk).1 h)
      · have ha : a < cnt S := all_bit.1 h0
        rw [ad_ind ha hk] at h2
        exact .inr ⟨eln (els S) a, (els_at hS h7 ha).2, (rin_ind h7 hS hi n a ha).1 h1, h2⟩
    · rintro (h | ⟨x, h0, h1, h2⟩)
      · exact .inl ((rin_ind h7 hS hi n k hk).2 h)
      · obtain ⟨a, ha, rfl⟩ := (els_has hS h7).1 h0
        exact .inr ⟨a, all_bit.2 ha, (rin_ind h7 hS hi n a ha).2 h1, by rw [ad_ind ha hk]; exact h2⟩
theorem reach_ind {rs : List Int} (g : VG rs) {S : Nat} (hS : S < 2 ^ rs.length) (h0 : 0 < S) {i k n : Nat} (hi : i < cnt S) (hk : k < cnt S) : (reach (ind rs S) i n).testBit k = true ↔ rin rs S n (eln (els S) i) (eln (els S) k) := by
  obtain ⟨-, g2⟩ := VG.of (ind_graph g hS h0)
  have hl := ind_len rs S
  rw [reach_rin g2 (by omega) (by omega), hl, rin_ind g.le hS hi n k hk]
/-- A set of one part hangs together. -/
theorem one_part {rs : List Int} (g : VG rs) {S : Nat} (hS : S < 2 ^ rs.length) (h1 : (partsOf rs S).length = 1) {u v : Nat} (hu : S.testBit u = true) (hv : S.testBit v = true) : rin rs S rs.length u v := by
  have hp := partsAt_end g hS
  have h7 : S < 128 := by have := g.pow.1; omega
  have hP : ∃ t, S.testBit t = true ∧ ∀ x, S.testBit x = true → (grow rs (2 ^ t) S).testBit x = true := by
    match hq : partsOf rs S, h1 with
    | [P], _ =>
      rw [hq] at hp
      obtain ⟨t, ht, e⟩ := hp.each P (by simp)
      refine ⟨t, ht, fun x hx => ?_⟩
      rcases (hp.bits x).1 hx with h | ⟨Q, hQ, h⟩
      · simp at h
      · simp at hQ; subst hQ; rw [← e]; exact h
  obtain ⟨t, ht, hall⟩ := hP
  have h2 := grow_same g hS ht (hall u hu)
  have h3 := hall v hv
  rw [← h2] at h3
  exact (stepN_rin h7 hu rs.length v hv).1 h3
theorem part_one {rs : List Int} (g : VG rs) {S : Nat} (hS : S < 2 ^ rs.length) (h0 : S ≠ 0) (h : ∀ u v, S.testBit u = true → S.testBit v = true → rin rs S rs.length u v) : (partsOf rs S).length = 1 := by
  have h7 : S < 128 := by have := g.pow.1; omega
  obtain ⟨l1, -, -⟩ := low_facts h7 h0
  have e : grow rs (2 ^ low S) S = S := (grow_sub (pow_sub l1)).antisymm fun v hv => (stepN_rin h7 l1 rs.length v hv).2 (h _ _ l1 hv)
  have e2 : nDiff S S = 0 := by
    apply Nat.eq_of_testBit_eq
    intro i
    rw [Nat.zero_testBit, Bool.eq_false_iff]
    intro hb
    have := nDiff_bit.1 hb
    rw [this.1] at this; cases this.2
  show (partsF rs S 7 S).length = 1
  unfold partsF
  rw [if_neg h0, e, e2, partsF_nil]
  rfl
/-- The distance of two vertices that hang together. -/
theorem dist_rin {rs : List Int} (g : VG rs) {u v : Nat} (hu : u < rs.length) (hv : v < rs.length) (h : rin rs (2 ^ rs.length - 1) rs.length u v) : ∃ n : Nat, distV rs u v = n ∧ rin rs (2 ^ rs.length - 1) n u v ∧ ∀ j, j < n → ¬rin rs (2 ^ rs.length - 1) j u v := by
  obtain ⟨n, h1, h2, h3⟩ := dist_headH g hu hv ((reach_rin g hu hv (n := rs.length)).2 h)
  exact ⟨n, h1, (reach_rin g hu hv).1 h2, fun j hj hr => by
    have := h3 j hj
    rw [(reach_rin g hu hv).2 hr] at this; cases this⟩
theorem rin_symm {rs : List Int} (g : VG rs) {S u : Nat} (hu : S.testBit u = true) : ∀ {n v : Nat}, S.testBit v = true → rin rs S n u v → rin rs S n v u
  | 0, v, _, h => Eq.symm h
  | n + 1, v, hv, h => by
    rcases h with h | ⟨x, h1, h2, h3⟩
    · exact .inl (rin_symm g hu hv h)
    · have h4 := rin_symm g hu h1 h2
      have h5 := rin_trans (rin_step hv (by rw [ad_symm g]; exact h3)) h4
      rwa [Nat.add_comm] at h5
/-- From steps of one number to steps of another, once nothing is added. -/
theorem rin_len {rs : List Int} (g : VG rs) {u v n : Nat} (hu : u < rs.length) (hv : v < rs.length) (h : rin rs (2 ^ rs.length - 1) n u v) : rin rs (2 ^ rs.length - 1) rs.length u v := by
  rcases Nat.le_total n rs.length with h1 | h1
  · exact rin_mono h1 h
  · have hfix := grow_fix g (S := 2 ^ rs.length - 1) (X := 2 ^ u) (all_lt _) (pow_sub (all_bit.2 hu)) (by rw [cnt_pow (by have := g.le; omega)]; exact Nat.le_refl _)
    have h2 := stepN_stay (rs := rs) (S := 2 ^ rs.length - 1) (X := 2 ^ u) (k := rs.length) hfix n h1
    have h3 := (reach_rin g hu hv).2 h
    unfold reach at h3
    rw [h2] at h3
    exact (reach_rin g hu hv).1 h3
theorem dist_ind {rs : List Int} (g : VG rs) {S : Nat} (hS : S < 2 ^ rs.length) {i k n : Nat} (hi : i < cnt S) (hk : k < cnt S) (h : rin rs S n (eln (els S) i) (eln (els S) k)) :
    ∃ n : Nat, distV (ind rs S) i k = n ∧ rin rs S n (eln (els S) i) (eln (els S) k) ∧ ∀ j, j < n → ¬rin rs S j (eln (els S) i) (eln (els S) k) := by
  have h0 : 0 < S := Nat.pos_of_ne_zero fun e => by subst e; exact absurd hi (by rw [show cnt 0 = 0 by decide]; omega)
  obtain ⟨-, g2⟩ := VG.of (ind_graph g hS h0)
  have hl := ind_len rs S
  have h1 : rin (ind rs S) (2 ^ (ind rs S).length - 1) n i k := by rw [hl]; exact (rin_ind g.le hS hi n k hk).2 h
  obtain ⟨m, e, h2, h3⟩ := dist_rin g2 (by omega) (by omega) (rin_len g2 (by omega) (by omega) h1)
  rw [hl] at h2 h3
  exact ⟨m, e, (rin_ind g.le hS hi m k hk).1 h2, fun j hj hr => h3 j hj ((rin_ind g.le hS hi j k hk).2 hr)⟩

end Go.Proofs.YtjikmjhpmkakoaaGreatDoor
