/-
  The search for holes of the reference, and what both sides find. For at most 2^20 rows.
-/
import Derived.Test.YtgklgheaojoimaaPkLawStrong36
import Derived.Test.YtgklgheaojoimaaPkLawStrong37
import Derived.Test.YtgklgheaojoimaaPkLawStrong21
namespace Go.Proofs.Ytgklgheaojoimaa
open Go.RowKit

theorem verts_head {n : Int} {rs a b : List Int} (h : vertsB n rs (a ++ b) = true) : vertsB n rs a = true := by
  rw [vertsB_true] at h ⊢
  refine ⟨h.1, fun j hj => ?_⟩
  obtain ⟨h1, h2⟩ := h.2 j (by simp; omega)
  rw [gi_left hj] at h1
  refine ⟨h1, fun i hi => ?_⟩
  have := h2 i hi
  rwa [gi_left hj, gi_left (by omega)] at this
theorem verts_new {n : Int} {rs l t : List Int} {v : Nat} (h : vertsB n rs (l ++ [(v : Int)] ++ t) = true) : inB l (v : Int) = false := by
  rw [← Bool.not_eq_true, inB_true]
  rintro ⟨j, hj, e⟩
  rw [vertsB_true] at h
  have := (h.2 l.length (by simp)).2 j hj
  rw [gi_mid, List.append_assoc, gi_left hj] at this
  exact this e
theorem joinB_iff {n : Int} {rs l : List Int} {pat : Nat → Nat → Bool} : joinB n rs l pat = true ↔ vertsB n rs l = true ∧ ∀ i, i < l.length → ∀ j, j < i → joinedAt rs l pat i j = true := by
  unfold joinB; rw [Bool.and_eq_true, decide_eq_true_eq]
theorem holeB_join {n : Int} {rs l : List Int} (h : holeB n rs l = true) : joinB n rs l (holeP l.length) = true := by unfold holeB at h; rw [Bool.and_eq_true] at h; exact h.2
/-- A proper beginning of a hole is an induced path. -/
theorem hole_path {n : Int} {rs x t : List Int} (h : holeB n rs (x ++ t) = true) (h0 : 0 < x.length) (ht : 0 < t.length) : pathB n rs x = true := by
  have hj := joinB_iff.1 (holeB_join h)
  unfold pathB
  rw [decide_eq_true h0, Bool.true_and, joinB_iff]
  refine ⟨verts_head hj.1, fun i hi j hji => ?_⟩
  have e := hj.2 i (by simp; omega) j hji
  unfold joinedAt at e ⊢
  rw [gi_left (by omega), gi_left (by omega)] at e
  have hp : holeP (x ++ t).length j i = pathP j i := by
    unfold holeP pathP
    rw [decide_eq_false (p := i = (x ++ t).length - 1) (by simp; omega), Bool.and_false, Bool.or_false]
  rw [hp] at e
  exact e
theorem path_verts {n : Int} {rs l : List Int} (h : pathB n rs l = true) : vertsB n rs l = true := by unfold pathB at h; rw [Bool.and_eq_true] at h; exact (joinB_iff.1 h.2).1

/-! ### The searches -/
def mayS (rs : List Int) (k : Nat) (x : List Int) : Bool := pathB rs.length rs x || (decide (x.length = k) && holeB rs.length rs x)
def mayI (rs : List Int) (k : Nat) (x : List Int) : Bool := decide (x.length = k) || pathB rs.length rs x
theorem nec_mayS (rs : List Int) (k : Nat) : Nec (mayS rs k) (fun l => holeB rs.length rs l) k := fun l v t hk h => by
  refine ⟨verts_new (joinB_iff.1 (holeB_join h)).1, ?_⟩
  unfold mayS
  by_cases ht : 0 < t.length
  · rw [hole_path h (by simp) ht]; rfl
  · obtain rfl : t = [] := List.eq_nil_of_length_eq_zero (by omega)
    rw [List.append_nil] at h hk
    have h' : holeB rs.length rs (l ++ [(v : Int)]) = true := h
    rw [decide_eq_true hk, h', Bool.true_and, Bool.or_true]
theorem nec_mayI (rs : List Int) (k : Nat) : Nec (mayI rs k) (fun l => holeB rs.length rs l) k := fun l v t hk h => by
  refine ⟨verts_new (joinB_iff.1 (holeB_join h)).1, ?_⟩
  unfold mayI
  by_cases ht : 0 < t.length
  · rw [hole_path h (by simp) ht, Bool.or_true]
  · obtain rfl : t = [] := List.eq_nil_of_length_eq_zero (by omega)
    rw [List.append_nil] at hk
    rw [decide_eq_true hk]; rfl
theorem mayS_new {rs l : List Int} {k v : Nat} (h : mayS rs k (l ++ [(v : Int)]) = true) : inB l (v : Int) = false := by
  have hv : vertsB rs.length rs (l ++ [(v : Int)]) = true := by
    unfold mayS at h
    rw [Bool.or_eq_true, Bool.and_eq_true] at h
    rcases h with h | h
    · exact path_verts h
    · exact (joinB_iff.1 (holeB_join h.2)).1
  have := verts_new (t := []) (l := l) (v := v) (by rw [List.append_nil]; exact hv)
  exact this
/-- The first hole of k vertices. -/
def holeAt (rs : List Int) (k : Nat) : Option (List Int) := dfs (mayI rs k) (fun l => holeB rs.length rs l) rs.length k []
theorem holeAt_spec (rs : List Int) (k : Nat) : holeAt rs k = dfs (mayS rs k) (fun l => holeB rs.length rs l) rs.length k [] := dfs_prune (n := k) rs.length (nec_mayI rs k) (nec_mayS rs k) k [] (by simp)

set_option maxRecDepth 100000 in
set_option maxHeartbeats 4000000 in
theorem l4Search_any (rs : List Int) (ro : Option Addr) (rc : Nat) (hv : isGraphB rs.length rs = true) (kk : Nat) (hk7 : kk ≤ 7) : ∀ (f : Nat) (l : List Int) (n lc : Nat) (la : Addr) (w : World), l.length + f = kk → n = l.length → IntsAt w ro rs → IntsAt w (some la) l →
    Calls Try.prog 158 #[.agg #[.int .i64 rs.length, .slice ro rs.length rc], .slice (some la) n lc, .int .i64 kk, .bool true] w (RetD w f (dfs (mayS rs kk) (fun l => holeB rs.length rs l) rs.length f l)) := by
  have g := (VG.of hv).2
  have hg1 := g.pos
  have hg2 := g.le
  intro f
  induction f with
  | zero =>
    intro l n lc la w hlf hn hr hl
    subst hn
    have hN : ((l.length : Int) == (kk : Int)) = true := by rw [beq_iff_eq]; omega
    have HD : Hid (dfs (mayS rs kk) (fun l => holeB rs.length rs l) rs.length 0 l = if holeB rs.length rs l = true then some l else none) := rfl
    have Hhlf := Lib.hid hlf
    clear hlf
    go_enter Try.func158, Try.ntmps158
    go_wp2_with fail
    generalize hW : w.alloc _ = W1
    obtain ⟨hB, -, k0⟩ := alloc1 hW
    replace hr := hr.below hB
    replace hl := hl.below hB
    have hb0 := k0.lt
    have hc0 := k0.cell 0
    have hc1 := k0.cell 1
    simp at hc0 hc1
    clear hW k0
    have HhB := Lib.hid hB
    clear hB
    obtain ⟨m, hm0⟩ : ∃ m : Later W1, m.w = W1 := ⟨Later.refl _, rfl⟩
    refine (fun h => hm0 ▸ h) ?_
    clear hm0
    go_wp2_with (first | (go_at_call 177; refine (Calls.later m (specIsHole_any _ _ _ _ _ _ _ _ (hr.later m) (by omega) (hl.later m) (by have := Hhlf.out; omega))).mono ?_; rintro e w' ⟨rfl, m, rfl⟩))
    go_ret2
    rw [HD.out]
    refine ⟨some la, lc, l, ?_, below_later HhB.out m, hl.later m, ?_, fun h => absurd h (by omega)⟩
    · cases holeB rs.length rs l <;> rfl
    · intro x hx
      split at hx
      · exact Option.some.inj hx
      · cases hx
  | succ f ih =>
    intro l n lc la w hlf hn hr hl
    subst hn
    have hN : ((l.length : Int) == (kk : Int)) = false := by rw [beq_eq_false_iff_ne]; omega
    have hl5 : l.length ≤ 6 := by omega
    have Hih := Lib.hid ih
    clear ih
    have Hhlf := Lib.hid hlf
    clear hlf
    go_enter Try.func158, Try.ntmps158
    go_wp2_with fail
    generalize hW : w.alloc _ = W1
    obtain ⟨hB, -, k0⟩ := alloc1 hW
    replace hr := hr.below hB
    replace hl := hl.below hB
    have hb0 := k0.lt
    have hc0 := k0.cell 0
    have hc1 := k0.cell 1
    simp at hc0 hc1
    clear hW k0
    have HhB := Lib.hid hB
    clear hB
    obtain ⟨m, hm0⟩ : ∃ m : Later W1, m.w = W1 := ⟨Later.refl _, rfl⟩
    refine (fun h => hm0 ▸ h) ?_
    clear hm0
    go_wp2_with fail
    go_loopw [10] (fun i wr => (∃ m : Later W1, wr = m.w) ∧ ∃ j : Nat, j ≤ rs.length ∧ i = .int .i64 j ∧ preF (flStep (flRun (S := Unit) (fun _ l => ((), holeB rs.length rs l)) (mayS rs kk) rs.length f) (mayS rs kk) l) ((), none) j = (((), none), true)) (fun i _ => rs.length - (intOf i).toNat)
    case atStart => exact ⟨⟨m, rfl⟩, 0, by omega, rfl, rfl⟩
    case round =>
      obtain ⟨⟨m, rfl⟩, j, hj, rfl, hP⟩ := hrel
      have HhP := Lib.hid hP
      clear hP
      have hms := m.size
      by_cases hlt : j < rs.length
      · have hx : (l ++ [(j : Int)]).length = l.length + 1 := by simp
        have HM : Hid (mayS rs kk (l ++ [(j : Int)]) = (pathB rs.length rs (l ++ [(j : Int)]) || (decide (l.length + 1 = kk) && holeB rs.length rs (l ++ [(j : Int)])))) := by show mayS rs kk _ = _; unfold mayS; rw [hx]
        have HS := Lib.hid (fun h => (preF_go HhP.out).trans (flStep_skip (rec := flRun (S := Unit) (fun _ l => ((), holeB rs.length rs l)) (mayS rs kk) rs.length f) (may := mayS rs kk) (l := l) (v := j) (s := ()) (.inr h)))
        have HG := Lib.hid (fun h => (preF_go HhP.out).trans (flStep_dfs (q := fun l => holeB rs.length rs l) (N := rs.length) (f := f) (mayS_new (k := kk) h) h rfl))
        have hih := fun (n lc : Nat) (la : Addr) (w : World) (h1 : n = (l ++ [(j : Int)]).length) h2 h3 => Hih.out (l ++ [(j : Int)]) n lc la w (by have := Hhlf.out; omega) h1 h2 h3
        generalize dfs (mayS rs kk) (fun l => holeB rs.length rs l) rs.length f (l ++ [(j : Int)]) = O at HG hih
        have hp := fun (ao : Option Addr) (c : Nat) (w : World) h1 h2 => specIsPath_any rs.length rs (l ++ [(j : Int)]) ro ao rc c w h1 (by omega) h2 (by omega)
        have hh := fun (ao : Option Addr) (c : Nat) (w : World) h1 h2 => specIsHole_any rs.length rs (l ++ [(j : Int)]) ro ao rc c w h1 (by omega) h2 (by omega)
        rw [hx] at hih hp hh
        have Hhx := Lib.hid hx
        clear hx
        have Hhih := Lib.hid hih
        clear hih
        have Hhp := Lib.hid hp
        clear hp
        have Hhh := Lib.hid hh
        clear hh
        go_wp2_with (first | (at_builtin; first | ((refine wpList_append_cp rfl (.tmp 30) (.tmp 31) rfl m.w.heap.size _ la l lc rfl rfl ((hl.later m).below ((Below.refl _ _).alloc (Nat.le_refl _) _)) (by simp) (by omega) ?_); intro ao1 cap1 w1 hne1 hown1 hBw1; have hsz : m.w.heap.size + 1 ≤ w1.heap.size := by (have := hBw1.size; simp at this; omega)) | ((refine wpList_append_e rfl (.tmp 32) (.tmp 34) rfl m.w.heap.size cap1 ao1 l (j : Int) rfl hown1 rfl (by omega) (by omega) ?_); intro ao2 cap2 w2 hown2 hBw2; obtain ⟨lb2, lo2, rfl, -, -⟩ := hown2.ints (by simp); have hB2 : Below m.w.heap.size m.w w2 := ((((Below.refl _ _).alloc (Nat.le_refl _) _).trans (hBw1.mono (by simp))).trans hBw2); obtain ⟨m2, hm2⟩ : ∃ m2 : Later W1, m2.w = w2 := ⟨m.on hB2, rfl⟩; subst hm2)))
        have hI2 := hown2.ints
        clear hown1 hown2 hBw1 hBw2 hsz hne1 hB2
        refine (Hhp.out _ _ _ (hr.later m2) hI2).mono ?_
        rintro e w3 ⟨rfl, hB3⟩
        have hI3 := hI2.below hB3
        obtain ⟨m3, rfl⟩ : ∃ m3 : Later W1, m3.w = w3 := ⟨m2.on hB3, rfl⟩
        clear hI2 hB3
        cases hpb : pathB rs.length rs (l ++ [(j : Int)])
        · by_cases hk : l.length + 1 = kk
          · have dk : (((l.length : Int) + 1) == (kk : Int)) = true := by rw [beq_iff_eq]; omega
            have dk2 : (((l.length + 1 : Nat) : Int) == (kk : Int)) = true := by rw [beq_iff_eq]; omega
            have HK := Lib.hid (decide_eq_true hk)
            clear hk
            go_wp2_with fail
            refine (Hhh.out _ _ _ (hr.later m3) hI3).mono ?_
            rintro e w4 ⟨rfl, hB4⟩
            have hI4 := hI3.below hB4
            obtain ⟨m4, rfl⟩ : ∃ m4 : Later W1, m4.w = w4 := ⟨m3.on hB4, rfl⟩
            clear hI3 hB4 dk dk2
            cases hhb : holeB rs.length rs (l ++ [(j : Int)])
            · go_wp2_with fail
              go_roundw
              case rel => exact ⟨⟨m4, rfl⟩, j + 1, by omega, by go_num, HS.out (by rw [HM.out, hpb, hhb, Bool.and_false]; rfl)⟩
              case measure => simp [intOf]; omega
            · have HG' := Lib.hid (HG.out (by rw [HM.out, hpb, hhb, HK.out]; first | rfl | simp))
              rcases O with _ | x
              · go_wp2_with fail
                refine (Hhih.out _ _ _ _ rfl (hr.later m4) hI4).mono ?_
                rintro e w5 ⟨ao5, cap5, xs5, rfl, hB5, hI5, hE5, hN5⟩
                obtain ⟨m5, rfl⟩ : ∃ m5 : Later W1, m5.w = w5 := ⟨m4.on hB5, rfl⟩
                clear hI5 hE5 hN5 hB5
                go_wp2_with fail
                go_roundw
                case rel => exact ⟨⟨m5, rfl⟩, j + 1, by omega, by go_num, HG'.out⟩
                case measure => simp [intOf]; omega
              · have HE := Lib.hid (dfs_hit hlt HG'.out)
                go_wp2_with fail
                refine (Hhih.out _ _ _ _ rfl (hr.later m4) hI4).mono ?_
                rintro e w5 ⟨ao5, cap5, xs5, rfl, hB5, hI5, hE5, hN5⟩
                obtain ⟨m5, rfl⟩ : ∃ m5 : Later W1, m5.w = w5 := ⟨m4.on hB5, rfl⟩
                obtain rfl := hE5 _ rfl
                have HhI5 := Lib.hid hI5
                clear hI5
                clear hE5 hN5 hB5
                go_wp2_with fail
                go_ret2
                rw [HE.out]
                exact ⟨ao5, cap5, _, rfl, below_later HhB.out m5, HhI5.out, fun x h => Option.some.inj h, fun _ h => by cases h⟩
          · have dk : (((l.length : Int) + 1) == (kk : Int)) = false := by rw [beq_eq_false_iff_ne]; omega
            have dk2 : (((l.length + 1 : Nat) : Int) == (kk : Int)) = false := by rw [beq_eq_false_iff_ne]; omega
            go_wp2_with fail
            go_roundw
            case rel => exact ⟨⟨m3, rfl⟩, j + 1, by omega, by go_num, HS.out (by rw [HM.out, hpb, decide_eq_false hk]; rfl)⟩
            case measure => simp [intOf]; omega
        · have HG' := Lib.hid (HG.out (by rw [HM.out, hpb]; first | rfl | simp))
          rcases O with _ | x
          · go_wp2_with fail
            refine (Hhih.out _ _ _ _ rfl (hr.later m3) hI3).mono ?_
            rintro e w5 ⟨ao5, cap5, xs5, rfl, hB5, hI5, hE5, hN5⟩
            obtain ⟨m5, rfl⟩ : ∃ m5 : Later W1, m5.w = w5 := ⟨m3.on hB5, rfl⟩
            clear hI5 hE5 hN5 hB5
            go_wp2_with fail
            go_roundw
            case rel => exact ⟨⟨m5, rfl⟩, j + 1, by omega, by go_num, HG'.out⟩
            case measure => simp [intOf]; omega
          · have HE := Lib.hid (dfs_hit hlt HG'.out)
            go_wp2_with fail
            refine (Hhih.out _ _ _ _ rfl (hr.later m3) hI3).mono ?_
            rintro e w5 ⟨ao5, cap5, xs5, rfl, hB5, hI5, hE5, hN5⟩
            obtain ⟨m5, rfl⟩ : ∃ m5 : Later W1, m5.w = w5 := ⟨m3.on hB5, rfl⟩
            obtain rfl := hE5 _ rfl
            have HhI5 := Lib.hid hI5
            clear hI5
            clear hE5 hN5 hB5
            go_wp2_with fail
            go_ret2
            rw [HE.out]
            exact ⟨ao5, cap5, _, rfl, below_later HhB.out m5, HhI5.out, fun x h => Option.some.inj h, fun _ h => by cases h⟩
      · obtain rfl : j = rs.length := by omega
        have HE := Lib.hid (dfs_none HhP.out)
        go_wp2_with fail
        go_ret2
        rw [HE.out]
        exact ⟨_, _, [], rfl, (below_later HhB.out m).alloc (below_later HhB.out m).size _, fun h => absurd h (by simp), fun x h => absurd h (by simp), fun _ _ => rfl⟩

end Go.Proofs.Ytgklgheaojoimaa
