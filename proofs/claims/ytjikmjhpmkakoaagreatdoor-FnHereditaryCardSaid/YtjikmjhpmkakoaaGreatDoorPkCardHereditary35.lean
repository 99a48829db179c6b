/-
  Graphs of at most six vertices: there is a stretched set exactly if there is an obstacle. No conditions beyond that.
  The kit's contract of slices.Sort at []int, laid at this program in plain words (by the shelf's two programs). No conditions.
  Lists that hold each number below their length once: the two ways to tell. Then impl.sorted, isShuffle, IsPermutation of both sides. For at most 2^20 elements.
-/
import Derived.Test.YtjikmjhpmkakoaaGreatDoorPkCardHereditary34
import Derived.Shelf.Sort.Plain
import Derived.Lib.SortBridge
import Derived.Test.YtjikmjhpmkakoaaGreatDoorPkCardHereditary16
import Derived.Test.YtjikmjhpmkakoaaGreatDoorPkCardHereditary19
import Derived.Lib.SmallJoins
namespace Go.Proofs.YtjikmjhpmkakoaaGreatDoor
open Go.RowKit

/-- v is reached from u in k steps within S and not in fewer. -/
def lev (rs : List Int) (S u k v : Nat) : Prop := rin rs S k u v ∧ ∀ j, j < k → ¬rin rs S j u v
theorem lev_ex {rs : List Int} {S u v : Nat} : ∀ n, rin rs S n u v → ∃ k, k ≤ n ∧ lev rs S u k v
  | 0, h => ⟨0, Nat.le_refl _, h, fun j hj => by omega⟩
  | n + 1, h => by
    by_cases hn : rin rs S n u v
    · obtain ⟨k, h1, h2⟩ := lev_ex n hn
      exact ⟨k, by omega, h2⟩
    · exact ⟨n + 1, Nat.le_refl _, h, fun j hj hr => hn (rin_mono (by omega) hr)⟩
theorem lev_prev {rs : List Int} {S u k v : Nat} (h : lev rs S u (k + 1) v) : ∃ x, S.testBit x = true ∧ lev rs S u k x ∧ ad rs x v = true := by
  obtain ⟨h1, h2⟩ := h
  rcases h1 with h1 | ⟨x, hx, h3, h4⟩
  · exact absurd h1 (h2 k (by omega))
  · exact ⟨x, hx, ⟨h3, fun j hj hr => h2 (j + 1) (by omega) (.inr ⟨x, hx, hr, h4⟩)⟩, h4⟩
theorem lev_ne {rs : List Int} {S u i j x y : Nat} (hx : lev rs S u i x) (hy : lev rs S u j y) (h : i ≠ j) : x ≠ y := fun e => by
  subst e
  rcases Nat.lt_or_gt_of_ne h with h | h
  · exact hy.2 i h hx.1
  · exact hx.2 j h hy.1
theorem lev_far {rs : List Int} {S u i j x y : Nat} (hxS : S.testBit x = true) (hx : lev rs S u i x) (hy : lev rs S u j y) (h : i + 2 ≤ j) : ad rs x y = false := by
  cases q : ad rs x y
  · rfl
  · exact absurd (.inr ⟨x, hxS, hx.1, q⟩ : rin rs S (i + 1) u y) (hy.2 (i + 1) (by omega))
theorem lev_down {rs : List Int} {S u v : Nat} (hv : S.testBit v = true) : ∀ (k i : Nat), lev rs S u k v → i ≤ k → ∃ x, S.testBit x = true ∧ lev rs S u i x
  | 0, i, h, hi => ⟨v, hv, by rwa [show i = 0 by omega]⟩
  | k + 1, i, h, hi => by
    by_cases e : i = k + 1
    · subst e; exact ⟨v, hv, h⟩
    · obtain ⟨x, hx, h1, -⟩ := lev_prev h
      exact lev_down hx k i h1 (by omega)
/-- Seven different vertices are too many. -/
theorem seven {n : Nat} (h6 : n ≤ 6) {a b c d e f x : Nat} (hl : a < n ∧ b < n ∧ c < n ∧ d < n ∧ e < n ∧ f < n ∧ x < n) (hn : [a, b, c, d, e, f, x].Nodup) : False := by
  have := nodup_leH n [a, b, c, d, e, f, x] hn fun y hy => by
    simp at hy
    omega
  simp at this
  omega
/-- Two vertices that a vertex outside joins and that are further from each other within. -/
theorem base2 {rs : List Int} (g : VG rs) (h6 : rs.length ≤ 6) {S : Nat} (hS : S < 2 ^ rs.length) {u v x n : Nat} (hu : S.testBit u = true) (hv : S.testBit v = true) (hx : S.testBit x = false) (h1 : ad rs u x = true) (h2 : ad rs x v = true) (hk : ¬rin rs S 2 u v) (hc : rin rs S n u v) : obP rs (2 ^ rs.length - 1) := by
  obtain ⟨k, -, hl⟩ := lev_ex n hc
  have hk3 : 3 ≤ k := Nat.le_of_not_lt fun h => hk (rin_mono (by omega) hl.1)
  have hxl := (ad_lt g h1).2
  have hF : ∀ y, S.testBit y = true → (2 ^ rs.length - 1).testBit y = true := fun y hy => all_bit.2 (testBit_lt hS hy)
  have hxF : (2 ^ rs.length - 1).testBit x = true := all_bit.2 hxl
  have hxn : ∀ y, S.testBit y = true → y ≠ x := fun y hy e => by rw [e, hx] at hy; cases hy
  rw [obP_iff g h6 (all_lt _)]
  have h2' : ad rs v x = true := by rw [ad_symm g]; exact h2
  rcases (by omega : k = 3 ∨ k = 4 ∨ 5 ≤ k) with rfl | rfl | h5
  · obtain ⟨c, hcS, lc, ec⟩ := lev_prev hl
    obtain ⟨b, hbS, lb, eb⟩ := lev_prev lc
    obtain ⟨a, haS, la, ea⟩ := lev_prev lb
    obtain rfl : u = a := la.1
    refine .inl ⟨u, b, c, v, x, ⟨hF _ hu, hF _ hbS, hF _ hcS, hF _ hv, hxF⟩, ?_, ⟨ea, eb, ec⟩, ⟨lev_far haS la lc (by omega), lev_far hbS lb hl (by omega), lev_far haS la hl (by omega)⟩, h1, h2'⟩
    simp only [List.nodup_cons, List.mem_cons, List.not_mem_nil, or_false, not_or, List.nodup_nil, _root_.and_true, not_false_eq_true]
    exact ⟨⟨lev_ne la lb (by omega), lev_ne la lc (by omega), lev_ne la hl (by omega), hxn _ hu⟩, ⟨lev_ne lb lc (by omega), lev_ne lb hl (by omega), hxn _ hbS⟩, ⟨lev_ne lc hl (by omega), hxn _ hcS⟩, hxn _ hv⟩
  · obtain ⟨d, hdS, ld, ed⟩ := lev_prev hl
    obtain ⟨c, hcS, lc, ec⟩ := lev_prev ld
    obtain ⟨b, hbS, lb, eb⟩ := lev_prev lc
    obtain ⟨a, haS, la, ea⟩ := lev_prev lb
    obtain rfl : u = a := la.1
    refine .inr ⟨u, b, c, d, v, x, ⟨hF _ hu, hF _ hbS, hF _ hcS, hF _ hdS, hF _ hv, hxF⟩, ?_, ⟨ea, eb, ec, ed⟩, ⟨lev_far haS la lc (by omega), lev_far haS la ld (by omega), lev_far haS la hl (by omega), lev_far hbS lb ld (by omega), lev_far hbS lb hl (by omega), lev_far hcS lc hl (by omega)⟩, h1, h2'⟩
    simp only [List.nodup_cons, List.mem_cons, List.not_mem_nil, or_false, not_or, List.nodup_nil, _root_.and_true, not_false_eq_true]
    exact ⟨⟨lev_ne la lb (by omega), lev_ne la lc (by omega), lev_ne la ld (by omega), lev_ne la hl (by omega), hxn _ hu⟩, ⟨lev_ne lb lc (by omega), lev_ne lb ld (by omega), lev_ne lb hl (by omega), hxn _ hbS⟩, ⟨lev_ne lc ld (by omega), lev_ne lc hl (by omega), hxn _ hcS⟩, ⟨lev_ne ld hl (by omega), hxn _ hdS⟩, hxn _ hv⟩
  · exfalso
    obtain ⟨p0, s0, l0⟩ := lev_down hv k 0 hl (by omega)
    obtain ⟨p1, s1, l1⟩ := lev_down hv k 1 hl (by omega)
    obtain ⟨p2, s2, l2⟩ := lev_down hv k 2 hl (by omega)
    obtain ⟨p3, s3, l3⟩ := lev_down hv k 3 hl (by omega)
    obtain ⟨p4, s4, l4⟩ := lev_down hv k 4 hl (by omega)
    obtain ⟨p5, s5, l5⟩ := lev_down hv k 5 hl (by omega)
    refine seven h6 (a := p0) (b := p1) (c := p2) (d := p3) (e := p4) (f := p5) (x := x) ⟨testBit_lt hS s0, testBit_lt hS s1, testBit_lt hS s2, testBit_lt hS s3, testBit_lt hS s4, testBit_lt hS s5, hxl⟩ ?_
    simp only [List.nodup_cons, List.mem_cons, List.not_mem_nil, or_false, not_or, List.nodup_nil, _root_.and_true, not_false_eq_true]
    exact ⟨⟨lev_ne l0 l1 (by omega), lev_ne l0 l2 (by omega), lev_ne l0 l3 (by omega), lev_ne l0 l4 (by omega), lev_ne l0 l5 (by omega), hxn _ s0⟩, ⟨lev_ne l1 l2 (by omega), lev_ne l1 l3 (by omega), lev_ne l1 l4 (by omega), lev_ne l1 l5 (by omega), hxn _ s1⟩,
      ⟨lev_ne l2 l3 (by omega), lev_ne l2 l4 (by omega), lev_ne l2 l5 (by omega), hxn _ s2⟩, ⟨lev_ne l3 l4 (by omega), lev_ne l3 l5 (by omega), hxn _ s3⟩, ⟨lev_ne l4 l5 (by omega), hxn _ s4⟩, hxn _ s5⟩
/-- A shorter way than within the set makes an obstacle. -/
theorem short_ob {rs : List Int} (g : VG rs) (h6 : rs.length ≤ 6) {S : Nat} (hS : S < 2 ^ rs.length) (hc : ∀ u v, S.testBit u = true → S.testBit v = true → rin rs S rs.length u v) (m : Nat) :
    ∀ u v, S.testBit u = true → S.testBit v = true → rin rs (2 ^ rs.length - 1) m u v → ¬rin rs S m u v → obP rs (2 ^ rs.length - 1) := by
  induction m using Nat.strongRecOn with
  | ind m ih =>
    intro u v hu hv hr hn
    match m, hr, hn, ih with
    | 0, hr, hn, _ => exact absurd hr hn
    | m + 1, hr, hn, ih =>
      rcases hr with hr | ⟨x, hxF, hr, hxv⟩
      · exact ih m (by omega) u v hu hv hr fun h => hn (.inl h)
      · cases hx : S.testBit x with
        | true => exact ih m (by omega) u x hu hx hr fun h => hn (.inr ⟨x, hx, h, hxv⟩)
        | false =>
          match m, hr, hn, ih with
          | 0, hr, hn, _ =>
            have e : u = x := hr
            rw [e, hx] at hu; cases hu
          | m + 1, hr, hn, ih =>
            rcases hr with hr | ⟨y, hyF, hr, hyx⟩
            · exact ih (m + 1) (by omega) u v hu hv (.inr ⟨x, hxF, hr, hxv⟩) fun h => hn (.inl h)
            · cases hy : S.testBit y with
              | true =>
                by_cases hm : rin rs S m u y
                · have h2 : ¬rin rs S 2 y v := fun h => hn (rin_trans hm h)
                  exact base2 g h6 hS hy hv hx hyx hxv h2 (hc y v hy hv)
                · exact ih m (by omega) u y hu hy hr hm
              | false =>
                match m, hr, hn, ih with
                | 0, hr, hn, _ =>
                  have e : u = y := hr
                  rw [e, hy] at hu; cases hu
                | m + 1, hr, hn, ih =>
                  exfalso
                  obtain ⟨k, -, hl⟩ := lev_ex _ (hc u v hu hv)
                  have hk : 4 ≤ k := Nat.le_of_not_lt fun h => hn (rin_mono (by omega) hl.1)
                  obtain ⟨p0, s0, l0⟩ := lev_down hv k 0 hl (by omega)
                  obtain ⟨p1, s1, l1⟩ := lev_down hv k 1 hl (by omega)
                  obtain ⟨p2, s2, l2⟩ := lev_down hv k 2 hl (by omega)
                  obtain ⟨p3, s3, l3⟩ := lev_down hv k 3 hl (by omega)
                  obtain ⟨p4, s4, l4⟩ := lev_down hv k 4 hl (by omega)
                  have hxn : ∀ z, S.testBit z = true → z ≠ x := fun z hz e => by rw [e, hx] at hz; cases hz
                  have hyn : ∀ z, S.testBit z = true → z ≠ y := fun z hz e => by rw [e, hy] at hz; cases hz
                  have hyx2 : y ≠ x := fun e => by rw [e, ad_irr g] at hyx; cases hyx
                  refine seven h6 (a := p0) (b := p1) (c := p2) (d := p3) (e := p4) (f := y) (x := x) ⟨testBit_lt hS s0, testBit_lt hS s1, testBit_lt hS s2, testBit_lt hS s3, testBit_lt hS s4, (ad_lt g hyx).1, (ad_lt g hyx).2⟩ ?_
                  simp only [List.nodup_cons, List.mem_cons, List.not_mem_nil, or_false, not_or, List.nodup_nil, _root_.and_true, not_false_eq_true]
                  exact ⟨⟨lev_ne l0 l1 (by omega), lev_ne l0 l2 (by omega), lev_ne l0 l3 (by omega), lev_ne l0 l4 (by omega), hyn _ s0, hxn _ s0⟩, ⟨lev_ne l1 l2 (by omega), lev_ne l1 l3 (by omega), lev_ne l1 l4 (by omega), hyn _ s1, hxn _ s1⟩,
                    ⟨lev_ne l2 l3 (by omega), lev_ne l2 l4 (by omega), hyn _ s2, hxn _ s2⟩, ⟨lev_ne l3 l4 (by omega), hyn _ s3, hxn _ s3⟩, ⟨hyn _ s4, hxn _ s4⟩, hyx2⟩
/-- A set that hangs together keeps distances where there is no obstacle. -/
theorem keep_of {rs : List Int} (hg : isGraphB rs.length rs = true) (h6 : rs.length ≤ 6) {S : Nat} (hS : S < 2 ^ rs.length) (h1 : (partsOf rs S).length = 1) (hn : ¬obP rs (2 ^ rs.length - 1)) : keepB rs.length rs S = true := by
  have g := (VG.of hg).2
  have h0 : 0 < S := Nat.pos_of_ne_zero fun e => by
    subst e
    rw [show partsOf rs 0 = [] from partsF_nil rs 0 7] at h1; cases h1
  have hc := fun u v hu hv => one_part g hS h1 (u := u) (v := v) hu hv
  have hsub := sub_all hS
  rw [keepB_of (isSetB_mk hg hS) h0]
  have hgi := ind_graph g hS h0
  have gi2 := (VG.of hgi).2
  have hl := ind_len rs S
  have hci : ∀ i k, i < cnt S → k < cnt S → rin rs S rs.length (eln (els S) i) (eln (els S) k) := fun i k hi hk => hc _ _ (els_at hS g.le hi).2 (els_at hS g.le hk).2
  refine keepN_ok ?_ fun i hi k hk => ?_
  · unfold connB connN
    rw [hgi, Bool.true_and, decide_eq_true_eq, hl]
    have hp := part_one gi2 (S := 2 ^ (ind rs S).length - 1) (all_lt _) (by have := gi2.pow.2; have := gi2.pos; have h2 : 2 ^ 1 ≤ 2 ^ (ind rs S).length := Nat.pow_le_pow_right (by decide) this; omega) fun u v hu hv => by
      have hu2 : u < cnt S := by have := all_bit.1 hu; omega
      have hv2 : v < cnt S := by have := all_bit.1 hv; omega
      refine rin_len gi2 (by omega) (by omega) (n := rs.length) ?_
      rw [hl]
      exact (rin_ind g.le hS hu2 _ v hv2).2 (hci u v hu2 hv2)
    rw [hl] at hp
    exact hp
  · have hk2 : k < cnt S := by omega
    obtain ⟨n, e1, r1, m1⟩ := dist_ind g hS hi hk2 (hci i k hi hk2)
    have hiS := (els_at hS g.le hi).2
    have hkS := (els_at hS g.le hk2).2
    obtain ⟨n2, e2, r2, m2⟩ := dist_rin g (testBit_lt hS hiS) (testBit_lt hS hkS) (rin_sub hsub (hci i k hi hk2))
    unfold keepAt
    rw [e1, e2, decide_eq_true_eq]
    rcases Nat.lt_trichotomy n n2 with h | h | h
    · exact absurd (rin_sub hsub r1) (m2 n h)
    · rw [h]
    · exact absurd (short_ob g h6 hS hc n2 _ _ hiS hkS r2 (m1 n2 h)) hn
/-- Two vertices of a set that a vertex outside joins, not nearer than three within: the set does not keep distances. -/
theorem not_keep {rs : List Int} (hg : isGraphB rs.length rs = true) {S : Nat} (hS : S < 2 ^ rs.length) {u v x : Nat} (hu : S.testBit u = true) (hv : S.testBit v = true) (h1 : ad rs u x = true) (h2 : ad rs x v = true) (hk : ¬rin rs S 2 u v) (hc : rin rs S rs.length u v) : keepB rs.length rs S = false := by
  have g := (VG.of hg).2
  have h0 : 0 < S := Nat.pos_of_ne_zero fun e => by subst e; simp at hu
  rw [keepB_of (isSetB_mk hg hS) h0]
  obtain ⟨i, hi, rfl⟩ := (els_has hS g.le).1 hu
  obtain ⟨k, hk2, rfl⟩ := (els_has hS g.le).1 hv
  refine keepN_bad g hS h0 hi hk2 ?_
  obtain ⟨n, e1, r1, -⟩ := dist_ind g hS hi hk2 hc
  obtain ⟨n2, e2, -, m2⟩ := dist_rin g (testBit_lt hS hu) (testBit_lt hS hv) (rin_sub (sub_all hS) hc)
  have hl := ad_lt g h1
  have r3 : rin rs (2 ^ rs.length - 1) 2 (eln (els S) i) (eln (els S) k) := .inr ⟨x, all_bit.2 hl.2, rin_step (all_bit.2 hl.1) h1, h2⟩
  have h3 : n2 ≤ 2 := Nat.le_of_not_lt fun h => m2 2 h r3
  have h4 : 3 ≤ n := Nat.le_of_not_lt fun h => hk (rin_mono (by omega) r1)
  unfold keepAt
  rw [e1, e2, decide_eq_false_iff_not]
  omega

end Go.Proofs.YtjikmjhpmkakoaaGreatDoor

namespace Go.Proofs.YtjikmjhpmkakoaaGreatDoor
open Go.Shelf Go.RowKit
def laysSort_ren : Go.Shelf.Ren := ⟨fun | 189 => 160 | 125 => 174 | 257 => 173 | 128 => 188 | 129 => 189 | 294 => 179 | 295 => 180 | 296 => 181 | 297 => 182 | 298 => 183 | 299 => 184 | 216 => 185 | 300 => 186 | 301 => 187 | 328 => 194 | 329 => 195 | 330 => 196 | 331 => 197 | 332 => 198 | 215 => 199 | 343 => 202 | n => n, fun | 28 => 24 | 3 => 3 | 46 => 140 | 0 => 0 | 51 => 165 | 53 => 152 | 4 => 4 | 183 => 159 | 182 => 158 | 131 => 31 | 5 => 5 | 9 => 9 | 218 => 169 | 222 => 173 | 228 => 175 | 229 => 176 | n => n, fun | n => n⟩
theorem laysSort : Go.Proofs.Lays.n189 Tryz.prog laysSort_ren := {
  mixed := by kernel_rfl
  f125 := Tryz.func174.trans (congrArg some (by kernel_rfl))
  f128 := Tryz.func188.trans (congrArg some (by kernel_rfl))
  f129 := Tryz.func189.trans (congrArg some (by kernel_rfl))
  f189 := Tryz.func160.trans (congrArg some (by kernel_rfl))
  f215 := Tryz.func199.trans (congrArg some (by kernel_rfl))
  f216 := Tryz.func185.trans (congrArg some (by kernel_rfl))
  f257 := Tryz.func173.trans (congrArg some (by kernel_rfl))
  f294 := Tryz.func179.trans (congrArg some (by kernel_rfl))
  f295 := Tryz.func180.trans (congrArg some (by kernel_rfl))
  f296 := Tryz.func181.trans (congrArg some (by kernel_rfl))
  f297 := Tryz.func182.trans (congrArg some (by kernel_rfl))
  f298 := Tryz.func183.trans (congrArg some (by kernel_rfl))
  f299 := Tryz.func184.trans (congrArg some (by kernel_rfl))
  f300 := Tryz.func186.trans (congrArg some (by kernel_rfl))
  f301 := Tryz.func187.trans (congrArg some (by kernel_rfl))
  f328 := Tryz.func194.trans (congrArg some (by kernel_rfl))
  f329 := Tryz.func195.trans (congrArg some (by kernel_rfl))
  f330 := Tryz.func196.trans (congrArg some (by kernel_rfl))
  f331 := Tryz.func197.trans (congrArg some (by kernel_rfl))
  f332 := Tryz.func198.trans (congrArg some (by kernel_rfl))
  f343 := Tryz.func202.trans (congrArg some (by kernel_rfl))
  t0 := Tryz.underlying0
  a0 := Tryz.isAgg0
  z0 := Tryz.sizeOf0
  v0 := Tryz.zeroValue0
  t3 := Tryz.underlying3
  a3 := Tryz.isAgg3
  z3 := Tryz.sizeOf3
  v3 := Tryz.zeroValue3
  t4 := Tryz.underlying4
  a4 := Tryz.isAgg4
  z4 := Tryz.sizeOf4
  v4 := Tryz.zeroValue4
  t5 := Tryz.underlying5
  a5 := Tryz.isAgg5
  z5 := Tryz.sizeOf5
  v5 := Tryz.zeroValue5
  t9 := Tryz.underlying9
  a9 := Tryz.isAgg9
  z9 := Tryz.sizeOf9
  v9 := Tryz.zeroValue9
  t28 := Tryz.underlying24
  a28 := Tryz.isAgg24
  z28 := Tryz.sizeOf24
  v28 := Tryz.zeroValue24
  t46 := Tryz.underlying140
  a46 := Tryz.isAgg140
  z46 := Tryz.sizeOf140
  v46 := Tryz.zeroValue140
  t51 := Tryz.underlying165
  a51 := Tryz.isAgg165
  z51 := Tryz.sizeOf165
  v51 := Tryz.zeroValue165
  t53 := Tryz.underlying152
  a53 := Tryz.isAgg152
  z53 := Tryz.sizeOf152
  v53 := Tryz.zeroValue152
  t131 := Tryz.underlying31
  a131 := Tryz.isAgg31
  z131 := Tryz.sizeOf31
  v131 := Tryz.zeroValue31
  t182 := Tryz.underlying158
  a182 := Tryz.isAgg158
  z182 := Tryz.sizeOf158
  v182 := Tryz.zeroValue158
  t183 := Tryz.underlying159
  a183 := Tryz.isAgg159
  z183 := Tryz.sizeOf159
  v183 := Tryz.zeroValue159
  t218 := Tryz.underlying169
  a218 := Tryz.isAgg169
  z218 := Tryz.sizeOf169
  v218 := Tryz.zeroValue169
  t222 := Tryz.underlying173
  a222 := Tryz.isAgg173
  z222 := Tryz.sizeOf173
  v222 := Tryz.zeroValue173
  t228 := Tryz.underlying175
  a228 := Tryz.isAgg175
  z228 := Tryz.sizeOf175
  v228 := Tryz.zeroValue175
  t229 := Tryz.underlying176
  a229 := Tryz.isAgg176
  z229 := Tryz.sizeOf176
  v229 := Tryz.zeroValue176 }
open Go.Sort Go.RowKit in
theorem sort_law (blk off cap : Nat) (zs : List Int) (w : World) (hH : Holds (Value.int .i64) w blk off zs.toArray) (hblk : blk < w.heap.size) (hsz : zs.length < 4611686018427387904) :
    Calls Tryz.prog 160 #[.slice (some ⟨blk, off, none⟩) zs.length cap] w fun e w' =>
      e = .returned (.tuple #[]) ∧ ∃ n os, w' = Go.Sort.grow (putRow (Value.int .i64) (Sort.ahead w n) blk off (zs.mergeSort fun x y => decide (x ≤ y)).toArray) os := Any.slices_Sort_int laysSort blk off cap zs w hH hblk hsz
end Go.Proofs.YtjikmjhpmkakoaaGreatDoor

namespace Go.Proofs.YtjikmjhpmkakoaaGreatDoor
open Go.RowKit

/-- The list in rising order. -/
def sortI (l : List Int) : List Int := l.mergeSort fun x y => decide (x ≤ y)
theorem sortI_len (l : List Int) : (sortI l).length = l.length := List.length_mergeSort l
def idL (n : Nat) : List Int := (List.range n).map fun i : Nat => (i : Int)
theorem idL_mem {n : Nat} {x : Int} : x ∈ idL n ↔ 0 ≤ x ∧ x < n := by
  unfold idL
  simp only [List.mem_map, List.mem_range]
  constructor
  · rintro ⟨a, h, rfl⟩; omega
  · rintro ⟨h1, h2⟩; exact ⟨x.toNat, by omega, by omega⟩
theorem idL_pw (n : Nat) : (idL n).Pairwise (· < ·) := by
  unfold idL
  rw [List.pairwise_map]
  exact List.pairwise_lt_range.imp fun h => by omega
theorem idL_nodup (n : Nat) : (idL n).Nodup := (idL_pw n).imp fun h => by omega
theorem sortI_pw (l : List Int) : (sortI l).Pairwise (· ≤ ·) := by
  refine (List.pairwise_mergeSort (le := fun x y : Int => decide (x ≤ y)) (fun a b c h1 h2 => ?_) (fun a b => ?_) l).imp fun {a b} h => by simpa using h
  · simp only [decide_eq_true_eq] at *; omega
  · simp only [Bool.or_eq_true, decide_eq_true_eq]; omega
theorem sortI_id {l : List Int} : sortI l = idL l.length ↔ l.Perm (idL l.length) := by
  constructor
  · intro h
    exact (List.mergeSort_perm l _).symm.trans (by show (sortI l).Perm _; rw [h])
  · intro h
    exact List.Perm.eq_of_pairwise (le := fun a b => a ≤ b) (fun a b _ _ h1 h2 => by omega) (sortI_pw l) ((idL_pw _).imp fun h => by omega) ((List.mergeSort_perm l _).trans h)
theorem gi_get {l : List Int} {j : Nat} (h : j < l.length) : gi l j = l[j] := by simp [gi, h]
theorem gi_mem {l : List Int} {x : Int} : x ∈ l ↔ ∃ j, j < l.length ∧ gi l j = x := by
  rw [List.mem_iff_getElem]
  exact ⟨fun ⟨j, h, e⟩ => ⟨j, h, by rw [gi_get h, e]⟩, fun ⟨j, h, e⟩ => ⟨j, h, by rw [← gi_get h, e]⟩⟩
theorem setOk_iff {l : List Int} : setOk l = true ↔ (∀ j, j < l.length → 0 ≤ gi l j ∧ gi l j ≤ 6) ∧ l.Nodup := by
  rw [List.nodup_iff_pairwise_ne, List.pairwise_iff_getElem]
  constructor
  · intro h
    have h' : ∀ k, k < l.length → diffAt l k = true := by unfold setOk at h; simpa using h
    have hr : ∀ j, j < l.length → 0 ≤ gi l j ∧ gi l j ≤ 6 := fun j hj => by
      have := h' j hj
      unfold diffAt at this
      simp only [Bool.and_eq_true, decide_eq_true_eq] at this
      exact this.1
    refine ⟨hr, fun i j hi hj hij e => ?_⟩
    have := h' j hj
    unfold diffAt at this
    simp only [Bool.and_eq_true, Bool.not_eq_true'] at this
    have h2 := ((setTo_bits (l := l) (k := j) fun t ht => h' t (by omega)).2 (gi l j).toNat).2 ⟨i, hij, by rw [gi_get hi, gi_get hj, e]⟩
    rw [this.2] at h2; cases h2
  · rintro ⟨hr, hn⟩
    have hd : ∀ k, k ≤ l.length → ∀ j, j < k → diffAt l j = true := fun k => by
      induction k with
      | zero => exact fun _ j h => absurd h (by omega)
      | succ k ih =>
        intro hk j hj
        have ih' := ih (by omega)
        rcases Nat.lt_succ_iff_lt_or_eq.1 hj with h | rfl
        · exact ih' j h
        · unfold diffAt
          have := hr j (by omega)
          rw [decide_eq_true this.1, decide_eq_true this.2, Bool.and_self, Bool.true_and, Bool.not_eq_true', Bool.eq_false_iff]
          intro hb
          obtain ⟨i, hi, e⟩ := ((setTo_bits (l := l) (k := j) ih').2 _).1 hb
          have hi2 := hr i (by omega)
          refine hn i j (by omega) (by omega) hi ?_
          rw [← gi_get (by omega), ← gi_get (by omega)]; omega
    unfold setOk
    rw [decide_eq_true_eq]
    exact fun k hk => hd l.length (Nat.le_refl _) k hk
theorem ones_bit (n v : Nat) : (2 ^ n - 1).testBit v = decide (v < n) := Nat.testBit_two_pow_sub_one ..
/-- The two ways. -/
theorem perm_same {l : List Int} (h7 : l.length ≤ 7) : (setOk l && decide (setV l = ((2 ^ l.length - 1 : Nat) : Int))) = decide (sortI l = idL l.length) := by
  rw [Bool.eq_iff_iff, Bool.and_eq_true, decide_eq_true_eq, decide_eq_true_eq, sortI_id]
  constructor
  · rintro ⟨h1, h2⟩
    rw [setV_all h1] at h2
    have h2' : setTo l l.length = 2 ^ l.length - 1 := by omega
    obtain ⟨hr, hn⟩ := setOk_iff.1 h1
    refine (List.perm_ext_iff_of_nodup hn (idL_nodup _)).2 fun x => ?_
    have hb := (setTo_bits (l := l) (k := l.length) (fun j hj => by unfold setOk at h1; simpa using (of_decide_eq_true h1) j hj)).2
    rw [gi_mem, idL_mem]
    constructor
    · rintro ⟨j, hj, rfl⟩
      have h3 := (hb (gi l j).toNat).2 ⟨j, hj, rfl⟩
      rw [h2', ones_bit, decide_eq_true_eq] at h3
      have := hr j hj
      omega
    · rintro ⟨h3, h4⟩
      obtain ⟨j, hj, e⟩ := (hb x.toNat).1 (by rw [h2', ones_bit, decide_eq_true_eq]; omega)
      have := hr j hj
      exact ⟨j, hj, by omega⟩
  · intro hp
    have hm : ∀ j, j < l.length → 0 ≤ gi l j ∧ gi l j < l.length := fun j hj => idL_mem.1 ((hp.mem_iff).1 (gi_mem.2 ⟨j, hj, rfl⟩))
    have h1 : setOk l = true := setOk_iff.2 ⟨fun j hj => by have := hm j hj; omega, hp.nodup_iff.2 (idL_nodup _)⟩
    refine ⟨h1, ?_⟩
    rw [setV_all h1]
    have hb := (setTo_bits (l := l) (k := l.length) (fun j hj => by unfold setOk at h1; simpa using (of_decide_eq_true h1) j hj)).2
    congr 1
    apply Nat.eq_of_testBit_eq
    intro v
    rw [ones_bit, Bool.eq_iff_iff, hb, decide_eq_true_eq]
    constructor
    · rintro ⟨j, hj, rfl⟩; have := hm j hj; omega
    · intro hv
      obtain ⟨j, hj, e⟩ := gi_mem.1 ((hp.mem_iff).2 (idL_mem.2 (show 0 ≤ (v : Int) ∧ (v : Int) < l.length by omega)))
      exact ⟨j, hj, by omega⟩
theorem idL_iff {l ys : List Int} (hl : ys.length = l.length) : ys = idL l.length ↔ ∀ i, i < l.length → gi ys i = (i : Int) := by
  have hn : (idL l.length).length = l.length := by simp [idL]
  have hg : ∀ i, i < l.length → gi (idL l.length) i = (i : Int) := fun i hi => by simp [idL, gi, hi]
  constructor
  · intro h i hi; rw [h, hg i hi]
  · intro h; exact gi_ext (by rw [hl, hn]) fun i hi => by rw [h i (by omega), hg i (by omega)]

/-- Is the list a permutation of 1 to 7 numbers? -/
def permB (l : List Int) : Bool := (decide ((1 : Int) ≤ l.length) && decide ((l.length : Int) ≤ 7)) && decide (sortI l = idL l.length)
theorem permB_true {l : List Int} (h : permB l = true) : 1 ≤ l.length ∧ l.length ≤ 7 ∧ (∀ j, j < l.length → 0 ≤ gi l j ∧ gi l j < l.length) ∧ l.Nodup := by
  unfold permB at h
  simp only [Bool.and_eq_true, decide_eq_true_eq] at h
  have hp := sortI_id.1 h.2
  exact ⟨by omega, by omega, fun j hj => idL_mem.1 ((hp.mem_iff).1 (gi_mem.2 ⟨j, hj, rfl⟩)), hp.nodup_iff.2 (idL_nodup _)⟩

end Go.Proofs.YtjikmjhpmkakoaaGreatDoor
