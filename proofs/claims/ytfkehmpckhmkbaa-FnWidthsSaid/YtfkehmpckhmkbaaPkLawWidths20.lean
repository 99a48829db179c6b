/-
  LexOrder of the reference: it hands back an order of all the vertices. For at most 2^20 rows.
-/
import Derived.Test.YtfkehmpckhmkbaaPkLawWidths10
import Derived.Test.YtfkehmpckhmkbaaPkLawWidths05
import Derived.Test.YtfkehmpckhmkbaaPkLawWidths13
namespace Go.Proofs.Ytfkehmpckhmkbaa
open Go.RowKit

/-- The label of v: one bit for each of the first k places. -/
def labTo (rs l : List Int) (v : Nat) : Nat → Nat
  | 0 => 0
  | k + 1 => labTo rs l v k * 2 + (if decide (k < l.length) && (gn rs (gi l k).toNat).testBit v then 1 else 0)
theorem labTo_lt (rs l : List Int) (v : Nat) : ∀ k, labTo rs l v k < 2 ^ k
  | 0 => by simp [labTo]
  | k + 1 => by
    have := labTo_lt rs l v k
    rw [labTo, Nat.pow_succ]
    split <;> omega

set_option maxRecDepth 100000 in
set_option maxHeartbeats 2000000 in
theorem l5Label_any (rs l : List Int) (v : Nat) (ro lo : Option Addr) (rc lc : Nat) (w : World) (hr : IntsAt w ro rs) (hl : IntsAt w lo l) (g : VG rs) (hv : v < rs.length) (hV : ∀ j, j < l.length → 0 ≤ gi l j ∧ gi l j < rs.length) :
    Calls Try.prog 97 #[.agg #[.int .i64 rs.length, .slice ro rs.length rc], .slice lo l.length lc, .int .i64 v] w fun e w' => e = .returned (.int .i64 (labTo rs l v 7)) ∧ Below w.heap.size w w' := by
  go_enter Try.func97, Try.ntmps97
  go_wp2_with fail
  generalize hW : w.alloc _ = W1
  obtain ⟨hB, -, k0⟩ := alloc1 hW
  replace hr := hr.below hB
  replace hl := hl.below hB
  have hb0 := k0.lt
  have hc0 := k0.cell 0
  have hc1 := k0.cell 1
  simp at hc0 hc1
  clear hW k0
  have HhB := Lib.hid hB
  clear hB
  obtain ⟨m, hm0⟩ : ∃ m : Later W1, m.w = W1 := ⟨Later.refl _, rfl⟩
  refine (fun h => hm0 ▸ h) ?_
  clear hm0
  have HhV := Lib.hid hV
  clear hV
  go_loopw [7, 8] (fun x i wr => (∃ m : Later W1, wr = m.w) ∧ ∃ k : Nat, k ≤ 7 ∧ i = .int .i64 k ∧ x = .int .i64 (labTo rs l v k)) (fun _ i _ => 7 - (intOf i).toNat)
  case atStart => exact ⟨⟨m, rfl⟩, 0, by omega, rfl, rfl⟩
  case round =>
    obtain ⟨⟨m, rfl⟩, k, hk, rfl, rfl⟩ := hrel
    have hlt := labTo_lt rs l v k
    by_cases h7 : k < 7
    · have hp : 2 ^ k ≤ 2 ^ 6 := Nat.pow_le_pow_right (by omega) (by omega)
      have d7 : decide ((k : Int) < 7) = true := decide_eq_true (by omega)
      have hm : wrap64 ((labTo rs l v k : Int) * 2) = ((labTo rs l v k * 2 : Nat) : Int) := by simp only [wrap64]; omega
      have HN : Hid (labTo rs l v (k + 1) = labTo rs l v k * 2 + (if decide (k < l.length) && (gn rs (gi l k).toNat).testBit v then 1 else 0)) := Lib.hid rfl
      have hM : labTo rs l v k * 2 < 128 := by omega
      generalize labTo rs l v k * 2 = M at *
      by_cases hkl : k < l.length
      · obtain ⟨lb, lofs, rfl, hlb, hlc⟩ := hl (Nat.lt_of_le_of_lt (Nat.zero_le k) hkl)
        have hck := hlc k hkl
        obtain ⟨u, hu⟩ : ∃ u : Nat, gi l k = u := ⟨(gi l k).toNat, by have := HhV.out k hkl; omega⟩
        have hu2 : u < rs.length := by have := HhV.out k hkl; omega
        rw [hu] at hck
        rw [decide_eq_true hkl, hu, Int.toNat_natCast, Bool.true_and] at HN
        have hA := fun m : Later W1 => l2Edge_any rs u v ro rc m.w (hr.later m) g hu2 hv
        clear hlc hu hlt hp
        cases he : (gn rs u).testBit v
        all_goals
          simp only [he] at hA HN
          go_wp2_with fail
          refine wp_region_later m rfl (by kernel_rfl) (by kernel_rfl) ?_
          repeat (go_big_quiet_step ((first | (go_at_call 65; exact Calls.later _ (hA _)))))
          refine wpQuiet_nil ?_
          rintro _ ⟨m, rfl⟩
          go_wp2_with fail
          go_roundw
          case rel => exact ⟨⟨m, rfl⟩, k + 1, by omega, by go_num, by rw [HN.out]; go_num⟩
          case measure => simp [intOf]; omega
      · rw [decide_eq_false hkl, Bool.false_and] at HN
        clear hl hlt hp
        go_wp2_with fail
        refine wp_region_later m rfl (by kernel_rfl) (by kernel_rfl) ?_
        repeat (go_big_quiet_step (fail))
        refine wpQuiet_nil ?_
        rintro _ ⟨m, rfl⟩
        go_wp2_with fail
        go_roundw
        case rel => exact ⟨⟨m, rfl⟩, k + 1, by omega, by go_num, by rw [HN.out]; go_num⟩
        case measure => simp [intOf]; omega
    · obtain rfl : k = 7 := by omega
      clear hlt
      go_wp2_with fail
      go_ret
      exact ⟨rfl, below_later HhB.out m⟩

theorem vertsB_add {n : Int} {rs l : List Int} {v : Nat} (h : vertsB n rs l = true) : vertsB n rs (l ++ [(v : Int)]) = (decide (v < rs.length) && !inB l (v : Int)) := by
  rw [Bool.eq_iff_iff, Bool.and_eq_true, decide_eq_true_eq, Bool.not_eq_true', ← Bool.not_eq_true, inB_true]
  rw [vertsB_true] at h ⊢
  have hg : ∀ k, k < l.length → gi (l ++ [(v : Int)]) k = gi l k := fun k hk => by
    have h2 : k < (l ++ [(v : Int)]).length := by simp; omega
    simp [gi, List.getElem?_append_left hk]
  have hv : gi (l ++ [(v : Int)]) l.length = v := by simp [gi]
  constructor
  · rintro ⟨-, h2⟩
    obtain ⟨h3, h4⟩ := h2 l.length (by simp)
    rw [hv] at h3 h4
    refine ⟨by omega, ?_⟩
    rintro ⟨j, hj, e⟩
    exact h4 j hj (by rw [hg j hj]; exact e)
  · rintro ⟨h2, h3⟩
    refine ⟨h.1, fun j hj => ?_⟩
    by_cases e : j < l.length
    · obtain ⟨h4, h5⟩ := h.2 j e
      rw [hg j e]
      exact ⟨h4, fun i hi => by rw [hg i (by omega)]; exact h5 i hi⟩
    · obtain rfl : j = l.length := by simp at hj; omega
      rw [hv]
      exact ⟨by omega, fun i hi => by rw [hg i hi]; exact fun e2 => h3 ⟨i, hi, e2⟩⟩

/-- What LexOrder has taken: xs, and the set U of it. -/
structure LexI (rs xs : List Int) (U : Nat) : Prop where
  ok : vertsB rs.length rs xs = true
  lt : U < 128
  bit : ∀ i, i < rs.length → U.testBit i = inB xs (i : Int)
  cnt : cnt U = xs.length
  le : xs.length ≤ rs.length
theorem lex_more_fin : ∀ U : Fin 128, ∀ b : Fin 7, U.val.testBit b.val = false → U.val + 2 ^ b.val < 128 ∧ cnt (U.val + 2 ^ b.val) = cnt U.val + 1 ∧ ∀ i : Fin 7, (U.val + 2 ^ b.val).testBit i.val = (U.val.testBit i.val || i.val == b.val) := by decide +kernel
theorem lex_full_fin : ∀ N : Fin 8, ∀ U : Fin 128, (∀ i : Fin 7, i.val < N.val → U.val.testBit i.val = true) → N.val ≤ cnt U.val := by decide +kernel
theorem inB_snoc (l : List Int) (x y : Int) : inB (l ++ [x]) y = (inB l y || (x == y)) := by
  rw [Bool.eq_iff_iff, Bool.or_eq_true, inB_true, inB_true, beq_iff_eq]
  constructor
  · rintro ⟨j, hj, e⟩
    by_cases h : j < l.length
    · rw [gi_left h] at e; exact .inl ⟨j, h, e⟩
    · obtain rfl : j = l.length := by simp at hj; omega
      rw [gi_last] at e; exact .inr e
  · rintro (⟨j, hj, e⟩ | rfl)
    · exact ⟨j, by simp; omega, by rw [gi_left hj]; exact e⟩
    · exact ⟨l.length, by simp, gi_last⟩
theorem LexI.more {rs xs : List Int} {U b : Nat} (h : LexI rs xs U) (g : VG rs) (hl : xs.length < rs.length) (hb : b < rs.length) (hU : U.testBit b = false) : LexI rs (xs ++ [(b : Int)]) (U + 2 ^ b) := by
  have g7 := g.le
  obtain ⟨h1, h2, h3⟩ := lex_more_fin ⟨U, h.lt⟩ ⟨b, by omega⟩ hU
  refine ⟨?_, h1, fun i hi => ?_, by rw [h2, h.cnt]; simp, by simp; omega⟩
  · rw [vertsB_add h.ok, decide_eq_true hb, ← h.bit b hb, hU]; rfl
  · have := h3 ⟨i, by omega⟩
    rw [inB_snoc, ← h.bit i hi]
    refine this.trans (congrArg (U.testBit i || ·) ?_)
    rw [Bool.eq_iff_iff, beq_iff_eq, beq_iff_eq]
    dsimp only
    omega
theorem LexI.free {rs xs : List Int} {U : Nat} (h : LexI rs xs U) (g : VG rs) (hl : xs.length < rs.length) : ∃ b, b < rs.length ∧ U.testBit b = false := by
  have g7 := g.le
  refine Classical.byContradiction fun hn => ?_
  have := lex_full_fin ⟨rs.length, by omega⟩ ⟨U, h.lt⟩ fun i hi => by
    cases e : U.testBit i.val
    · exact absurd ⟨i.val, hi, e⟩ hn
    · rfl
  have h2 := h.cnt
  dsimp only at this
  omega
theorem LexI.start {rs : List Int} (hg : isGraphB rs.length rs = true) {s : Nat} (hs : s < rs.length) : LexI rs [(s : Int)] (2 ^ s) := by
  obtain ⟨-, g⟩ := VG.of hg
  have h0 : LexI rs [] 0 := ⟨vertsB_true.2 ⟨hg, fun j hj => absurd hj (by simp)⟩, by decide, fun i _ => by rw [Nat.zero_testBit]; rfl, by decide, by simp⟩
  simpa using h0.more g (by simp; omega) hs (Nat.zero_testBit s)

/-- A list, and whether it is an order of all the vertices: if the call says so, it is. -/
def RetLx (n : Int) (rs : List Int) (w : World) (e : Ending) (w' : World) : Prop :=
  ∃ (l : List Int) (ao : Option Addr) (cap : Nat) (b : Bool), e = .returned (.tuple #[.slice ao l.length cap, .bool b]) ∧ Below w.heap.size w w' ∧ IntsAt w' ao l ∧ (b = true → orderB n rs l = true ∧ ∃ g0, ao = some ⟨g0, 0, none⟩ ∧ w.heap.size ≤ g0)

set_option maxRecDepth 100000 in
set_option maxHeartbeats 4000000 in
theorem LexOrder_any (n : Int) (rs : List Int) (s : Nat) (ro : Option Addr) (rc : Nat) (w : World) (hr : IntsAt w ro rs) (hrl : rs.length ≤ 1048576) (hs : s < 1048576) :
    Calls Try.prog 77 #[.agg #[.int .i64 n, .slice ro rs.length rc], .int .i64 s] w (RetLx n rs w) := by
  go_enter Try.func77, Try.ntmps77
  go_wp2_with fail
  generalize hW : w.alloc _ = W1
  obtain ⟨hB, -, k0⟩ := alloc1 hW
  replace hr := hr.below hB
  have hb0 := k0.lt
  have hc0 := k0.cell 0
  have hc1 := k0.cell 1
  simp at hc0 hc1
  clear hW k0
  have HhB := Lib.hid hB
  clear hB
  have hs0 : decide ((s : Int) < 0) = false := decide_eq_false (by omega)
  have hend : ∀ w', Below w.heap.size w w' → ∀ a, Hid (RetLx n rs w (.returned (.tuple #[.slice (some a) 0 0, .bool false])) w') := fun w' h a => Lib.hid ⟨[], some a, 0, false, rfl, h, fun h0 => absurd h0 (by simp), fun h => by cases h⟩
  have Hend := Lib.hid hend
  clear hend
  obtain ⟨m, hm0⟩ : ∃ m : Later W1, m.w = W1 := ⟨Later.refl _, rfl⟩
  refine (fun h => hm0 ▸ h) ?_
  clear hm0
  cases hv : isGraphB n rs
  · go_wp2_with (first | (go_at_call 12; refine (Calls.later m (specIsGraph_any _ _ _ _ _ (hr.later m) hrl)).mono ?_; rintro e w' ⟨rfl, m, rfl⟩))
    go_ret2
    exact (Hend.out _ ((below_later HhB.out m).alloc (below_later HhB.out m).size _) _).out
  · have Hhv := Lib.hid hv
    obtain ⟨rfl, g⟩ := VG.of hv
    have hg1 := g.pos
    have hg2 := g.le
    by_cases hsl : s < rs.length
    · have d1 : decide ((rs.length : Int) ≤ (s : Int)) = false := decide_eq_false (by omega)
      have d2 : decide (rs.length ≤ s) = false := decide_eq_false (by omega)
      have hI := LexI.start Hhv.out hsl
      have Hps := Lib.hid (pwN_small s (by omega))
      go_wp2_with (first | (go_at_call 12; refine (Calls.later m (specIsGraph_any _ _ _ _ _ (hr.later m) hrl)).mono ?_; rintro e w' ⟨rfl, m, rfl⟩))
      replace hr := hr.later m
      replace hc0 : m.w.cell? _ = _ := (m.cell _ _ hb0).trans hc0
      replace hc1 : m.w.cell? _ = _ := (m.cell _ _ hb0).trans hc1
      replace hb0 := Nat.lt_of_lt_of_le hb0 m.size
      replace HhB := Lib.hid (below_later HhB.out m)
      generalize m.w = W2 at *
      clear m
      generalize hW3 : World.alloc _ _ = W3
      obtain ⟨hB3, hz3, k3⟩ := alloc1 hW3
      have hO : OwnE W3 W2.heap.size (some ⟨W2.heap.size, 0, none⟩) 1 [(s : Int)] := (RowAt.of (w := W3) (b := W2.heap.size) (xs := [(s : Int)]) k3 (by simp)).own (Nat.le_refl _)
      clear hW3 k3 hz3
      obtain ⟨m, rfl⟩ : ∃ m : Later W2, m.w = W3 := ⟨⟨W3, hB3⟩, rfl⟩
      clear hB3
      have HhO := Lib.hid hO
      clear hO
      have HhI := Lib.hid hI
      clear hI
      go_loopw [6, 7] (fun o u wr => ∃ m : Later W2, wr = m.w ∧ ∃ (U : Nat) (xs : List Int) (ao : Option Addr) (cap : Nat), u = .int .i64 U ∧ o = .slice ao xs.length cap ∧ LexI rs xs U ∧ OwnE m.w W2.heap.size ao cap xs) (fun _ u _ => 128 - (intOf u).toNat)
      case atStart => exact ⟨m, rfl, 2 ^ s, _, _, _, congrArg (Value.int .i64) Hps.out, rfl, HhI.out, HhO.out⟩
      case round =>
        clear HhI HhO Hps
        obtain ⟨m, rfl, U, xs, ao, cap, rfl, rfl, hI, hO⟩ := hrel
        have hx7 : xs.length ≤ 7 := by have := cnt_le U; have := hI.cnt; omega
        by_cases hlt : xs.length < rs.length
        · have hU := hI.lt
          have hfree := hI.free g hlt
          have HW : ∀ m2 : Later m.w, ∃ m' : Later W2, m'.w = m2.w := fun m2 => ⟨m.on m2.below, rfl⟩
          have hms := m.size
          have hV := (vertsB_true.1 hI.ok).2
          have hL := fun (v : Nat) (hv : v < rs.length) (m2 : Later m.w) => l5Label_any rs xs v ro ao rc cap m2.w ((hr.later m).later m2) (hO.ints.later m2) g hv fun j hj => (hV j hj).1
          have HhO := Lib.hid hO
          clear hO
          have HhI := Lib.hid hI
          clear hI
          have HHW := Lib.hid HW
          clear HW
          have Hhfree := Lib.hid hfree
          clear hfree
          have HhV := Lib.hid hV
          clear hV
          replace hr := hr.later m
          replace hc0 : m.w.cell? _ = _ := (m.cell _ _ hb0).trans hc0
          replace hc1 : m.w.cell? _ = _ := (m.cell _ _ hb0).trans hc1
          replace hb0 := Nat.lt_of_lt_of_le hb0 m.size
          replace HhB := Lib.hid (below_later HhB.out m)
          generalize m.w = W4 at *
          clear m
          obtain ⟨m, hm0⟩ : ∃ m : Later W4, m.w = W4 := ⟨Later.refl _, rfl⟩
          refine (fun h => hm0 ▸ h) ?_
          clear hm0
          go_wp2_with fail
          go_loopw [8, 9] (fun b i wr => (∃ m : Later W4, wr = m.w) ∧ ∃ (j : Nat) (bi : Int), j ≤ rs.length ∧ i = .int .i64 j ∧ b = .int .i64 bi ∧ ((bi = -1 ∧ ∀ t, t < j → U.testBit t = true) ∨ ∃ b0 : Nat, bi = b0 ∧ b0 < rs.length ∧ U.testBit b0 = false)) (fun _ i _ => rs.length - (intOf i).toNat)
          case atStart => exact ⟨⟨m, rfl⟩, 0, -1, Nat.zero_le _, rfl, rfl, .inl ⟨rfl, fun t h => absurd h (by omega)⟩⟩
          case round =>
            obtain ⟨⟨m, rfl⟩, j, bi, hj, rfl, rfl, hD⟩ := hrel
            by_cases hjl : j < rs.length
            · have hn := hasN_nat U j
              cases hb : U.testBit j
              · rw [hb] at hn
                rcases hD with ⟨rfl, hD⟩ | ⟨b0, rfl, hb1, hb2⟩
                · clear hD
                  go_wp2_with fail
                  refine wp_region_later m rfl (by kernel_rfl) (by kernel_rfl) ?_
                  repeat (go_big_quiet_step (fail))
                  refine wpQuiet_nil ?_
                  rintro _ ⟨m, rfl⟩
                  go_wp2_with fail
                  go_roundw
                  case rel => exact ⟨⟨m, rfl⟩, j + 1, j, by omega, by go_num, rfl, .inr ⟨j, rfl, hjl, hb⟩⟩
                  case measure => simp [intOf]; omega
                · have d0 : decide ((b0 : Int) < 0) = false := decide_eq_false (by omega)
                  have hA1 := hL j hjl
                  have hA2 := hL b0 hb1
                  clear hL
                  generalize labTo rs xs j 7 = p at *
                  generalize labTo rs xs b0 7 = q at *
                  by_cases hpq : q < p
                  · have d2 : decide ((q : Int) < (p : Int)) = true := decide_eq_true (by omega)
                    go_wp2_with fail
                    refine wp_region_later m rfl (by kernel_rfl) (by kernel_rfl) ?_
                    repeat (go_big_quiet_step ((first | (go_at_call 97; with_reducible exact Calls.later _ (hA1 _)) | (go_at_call 97; with_reducible exact Calls.later _ (hA2 _)))))
                    refine wpQuiet_nil ?_
                    rintro _ ⟨m, rfl⟩
                    go_wp2_with fail
                    go_roundw
                    case rel => exact ⟨⟨m, rfl⟩, j + 1, j, by omega, by go_num, rfl, .inr ⟨j, rfl, hjl, hb⟩⟩
                    case measure => simp [intOf]; omega
                  · have d2 : decide ((q : Int) < (p : Int)) = false := decide_eq_false (by omega)
                    go_wp2_with fail
                    refine wp_region_later m rfl (by kernel_rfl) (by kernel_rfl) ?_
                    repeat (go_big_quiet_step ((first | (go_at_call 97; with_reducible exact Calls.later _ (hA1 _)) | (go_at_call 97; with_reducible exact Calls.later _ (hA2 _)))))
                    refine wpQuiet_nil ?_
                    rintro _ ⟨m, rfl⟩
                    go_wp2_with fail
                    go_roundw
                    case rel => exact ⟨⟨m, rfl⟩, j + 1, b0, by omega, by go_num, rfl, .inr ⟨b0, rfl, hb1, hb2⟩⟩
                    case measure => simp [intOf]; omega
              · rw [hb] at hn
                have HN : Hid ((bi = -1 ∧ ∀ t, t < j + 1 → U.testBit t = true) ∨ ∃ b0 : Nat, bi = b0 ∧ b0 < rs.length ∧ U.testBit b0 = false) := Lib.hid (hD.imp_left fun h => ⟨h.1, fun t ht => by
                  by_cases e : t < j
                  · exact h.2 t e
                  · obtain rfl : t = j := by omega
                    exact hb⟩)
                clear hD hL
                go_wp2_with fail
                refine wp_region_later m rfl (by kernel_rfl) (by kernel_rfl) ?_
                repeat (go_big_quiet_step (fail))
                refine wpQuiet_nil ?_
                rintro _ ⟨m, rfl⟩
                go_wp2_with fail
                go_roundw
                case rel => exact ⟨⟨m, rfl⟩, j + 1, bi, by omega, by go_num, rfl, HN.out⟩
                case measure => simp [intOf]; omega
            · obtain rfl : j = rs.length := by omega
              obtain ⟨b0, rfl, hb1, hb2⟩ : ∃ b0 : Nat, bi = b0 ∧ b0 < rs.length ∧ U.testBit b0 = false := by
                rcases hD with ⟨-, h⟩ | h
                · obtain ⟨b, h1, h2⟩ := Hhfree.out
                  rw [h b h1] at h2; cases h2
                · exact h
              have hI2 := HhI.out.more g hlt hb1 hb2
              have hq : wrap64 ((U : Int) + pwN b0) = ((U + 2 ^ b0 : Nat) : Int) := by
                have := hI2.lt
                rw [pwN_small _ (by omega)]
                generalize 2 ^ b0 = P at *
                simp only [wrap64]
                omega
              have hU2 : U < U + 2 ^ b0 := by have := Nat.two_pow_pos b0; omega
              have hU3 := hI2.lt
              have hms3 := m.size
              have Hq := Lib.hid hq
              generalize U + 2 ^ b0 = U2 at *
              have HhI2 := Lib.hid hI2
              clear hI2
              clear hD hL hb2 hq
              go_wp2_with (at_builtin; go_must (refine wpList_append_e rfl _ _ rfl W2.heap.size cap ao xs (b0 : Int) rfl (HhO.out.later m) rfl (by omega) (by omega) ?_); intro ao' cap' w1 hown1 hB1)
              go_roundw
              case rel =>
                obtain ⟨m', e⟩ := HHW.out m
                exact ⟨⟨w1, m'.below.trans (e.symm ▸ hB1)⟩, rfl, U2, xs ++ [(b0 : Int)], ao', cap', by rw [Hq.out], by simp, HhI2.out, hown1⟩
              case measure => rw [Hq.out]; simp [intOf]; omega
        · have hIo : orderB rs.length rs xs = true := by
            have h2 := hI.le
            rw [orderB_of hI.ok, beq_iff_eq]
            omega
          have hX := hO.ints
          have hF : ∃ g0, ao = some ⟨g0, 0, none⟩ ∧ w.heap.size ≤ g0 := by
            obtain ⟨g0, h1, h2, -⟩ := hO.row (by omega)
            exact ⟨g0, h1, by omega⟩
          have HhIo := Lib.hid hIo
          clear hIo
          have HhF := Lib.hid hF
          clear hF
          clear hI hO
          go_wp2_with fail
          go_ret2
          exact ⟨xs, ao, cap, true, rfl, below_later HhB.out m, hX, fun _ => ⟨HhIo.out, HhF.out⟩⟩
    · have d1 : decide ((rs.length : Int) ≤ (s : Int)) = true := decide_eq_true (by omega)
      go_wp2_with (first | (go_at_call 12; refine (Calls.later m (specIsGraph_any _ _ _ _ _ (hr.later m) hrl)).mono ?_; rintro e w' ⟨rfl, m, rfl⟩))
      go_ret2
      exact (Hend.out _ ((below_later HhB.out m).alloc (below_later HhB.out m).size _) _).out

end Go.Proofs.Ytfkehmpckhmkbaa
