/-
  The search l27Band of the reference. For at most 7 rows.
-/
import Derived.Test.YtdbaflimcbidjaaFirstList
import Derived.Test.YtdbaflimcbidjaaHas8
import Derived.Test.YtdbaflimcbidjaaAlways
import Derived.Test.YtdbaflimcbidjaaBand
import Derived.Deep.RegionHeld3
import Derived.Deep.CutRange
namespace Go.Proofs.Ytdbaflimcbidjaa
open Go.RowKit

/-- Does v, laid behind l, keep the band k with the first i places? -/
def fitTo (rs l : List Int) (v k : Nat) : Nat → Bool
  | 0 => true
  | i + 1 => fitTo rs l v k i && (decide (l.length - i ≤ k) || !(gn rs (gi l i).toNat).testBit v)
def mayBd (rs : List Int) (k : Nat) (x : List Int) : Bool := fitTo rs x.dropLast (gi x (x.length - 1)).toNat k (x.length - 1)
theorem mayBd_app {rs l : List Int} {k v : Nat} : mayBd rs k (l ++ [(v : Int)]) = fitTo rs l v k l.length := by
  unfold mayBd
  have e : (l ++ [(v : Int)]).length - 1 = l.length := by simp
  rw [e, List.dropLast_concat, gi_last, Int.toNat_natCast]
theorem fitTo_no {rs l : List Int} {v k i : Nat} (h : fitTo rs l v k i = false) : ∀ d, fitTo rs l v k (i + d) = false
  | 0 => h
  | d + 1 => by
    show (fitTo rs l v k (i + d) && _) = false
    rw [fitTo_no h d, Bool.false_and]
theorem fitTo_end {rs l : List Int} {v k i : Nat} (hi : i ≤ l.length) (h : fitTo rs l v k i = false) : mayBd rs k (l ++ [(v : Int)]) = false := by
  rw [mayBd_app, show l.length = i + (l.length - i) by omega]; exact fitTo_no h _

set_option maxRecDepth 100000 in
set_option maxHeartbeats 4000000 in
theorem l27Band_any (rs : List Int) (ro : Option Addr) (rc : Nat) (hv : isGraphB rs.length rs = true) (kk : Nat) (hk7 : kk ≤ 7) : ∀ (f : Nat) (l : List Int) (n lc : Nat) (la : Addr) (w : World), l.length + f = rs.length → n = l.length → IntsAt w ro rs → IntsAt w (some la) l → (∀ k, k < l.length → 0 ≤ gi l k ∧ gi l k < rs.length) →
    Calls Try.prog 64 #[.agg #[.int .i64 rs.length, .slice ro rs.length rc], .int .i64 kk, .slice (some la) n lc] w (RetD w f (dfs (mayBd rs kk) (fun _ => true) rs.length f l)) := by
  have g := (VG.of hv).2
  have hg1 := g.pos
  have hg2 := g.le
  intro f
  induction f with
  | zero =>
    intro l n lc la w hlf hn hr hl hV
    subst hn
    have hN : ((l.length : Int) == (rs.length : Int)) = true := by rw [beq_iff_eq]; omega
    have HD : Hid (dfs (mayBd rs kk) (fun _ => true) rs.length 0 l = some l) := rfl
    clear hV
    have Hhlf := Lib.hid hlf
    clear hlf
    go_enter Try.func64, Try.ntmps64
    go_wp2_with fail
    generalize hW : w.alloc _ = W1
    obtain ⟨hB, -, k0⟩ := alloc1 hW
    replace hr := hr.below hB
    replace hl := hl.below hB
    have hb0 := k0.lt
    have hc0 := k0.cell 0
    have hc1 := k0.cell 1
    simp at hc0 hc1
    clear hW k0
    have HhB := Lib.hid hB
    clear hB
    obtain ⟨m, hm0⟩ : ∃ m : Later W1, m.w = W1 := ⟨Later.refl _, rfl⟩
    refine (fun h => hm0 ▸ h) ?_
    clear hm0
    go_wp2_with fail
    go_ret2
    rw [HD.out]
    exact ⟨some la, lc, l, rfl, below_later HhB.out m, hl.later m, fun x h => Option.some.inj h, fun h => absurd h (by omega)⟩
  | succ f ih =>
    intro l n lc la w hlf hn hr hl hV
    subst hn
    have hN : ((l.length : Int) == (rs.length : Int)) = false := by rw [beq_eq_false_iff_ne]; omega
    have hl5 : l.length ≤ 6 := by omega
    have Hih := Lib.hid ih
    clear ih
    have Hhlf := Lib.hid hlf
    clear hlf
    have HhV := Lib.hid hV
    clear hV
    go_enter Try.func64, Try.ntmps64
    go_wp2_with fail
    generalize hW : w.alloc _ = W1
    obtain ⟨hB, -, k0⟩ := alloc1 hW
    replace hr := hr.below hB
    replace hl := hl.below hB
    have hb0 := k0.lt
    have hc0 := k0.cell 0
    have hc1 := k0.cell 1
    simp at hc0 hc1
    clear hW k0
    have HhB := Lib.hid hB
    clear hB
    obtain ⟨m, hm0⟩ : ∃ m : Later W1, m.w = W1 := ⟨Later.refl _, rfl⟩
    refine (fun h => hm0 ▸ h) ?_
    clear hm0
    go_wp2_with fail
    go_loopw [8] (fun i wr => (∃ m : Later W1, wr = m.w) ∧ ∃ j : Nat, j ≤ rs.length ∧ i = .int .i64 j ∧ preF (flStep (flRun (S := Unit) (fun _ l => ((), true)) (mayBd rs kk) rs.length f) (mayBd rs kk) l) ((), none) j = (((), none), true)) (fun i _ => rs.length - (intOf i).toNat)
    case atStart => exact ⟨⟨m, rfl⟩, 0, by omega, rfl, rfl⟩
    case round =>
      obtain ⟨⟨m, rfl⟩, j, hj, rfl, hP⟩ := hrel
      have HhP := Lib.hid hP
      clear hP
      by_cases hlt : j < rs.length
      · have hH := fun m : Later W1 => l8Has_any l (j : Int) (some la) l.length lc m.w (hl.later m) rfl (by omega)
        have hx : (l ++ [(j : Int)]).length = l.length + 1 := by simp
        have HS := Lib.hid (fun h => (preF_go HhP.out).trans (flStep_skip (rec := flRun (S := Unit) (fun _ l => ((), true)) (mayBd rs kk) rs.length f) (may := mayBd rs kk) (l := l) (v := j) (s := ()) h))
        have Hhx := Lib.hid hx
        clear hx
        go_wp2_with (first | (go_at_call 93; refine (hH m).mono ?_; rintro e w' ⟨rfl, rfl⟩))
        clear hH
        go_loopw [9, 10] (fun b i wr => (∃ m : Later W1, wr = m.w) ∧ ∃ t : Nat, t ≤ l.length ∧ i = .int .i64 t ∧ b = .bool (!inB l (j : Int) && fitTo rs l j kk t)) (fun _ i _ => l.length - (intOf i).toNat)
        case atStart => exact ⟨⟨m, rfl⟩, 0, by omega, rfl, congrArg Value.bool (by show _ = (_ && true); rw [Bool.and_true])⟩
        case round =>
          obtain ⟨⟨m, rfl⟩, t, ht, rfl, rfl⟩ := hrel
          cases hb : (!inB l (j : Int) && fitTo rs l j kk t)
          · have HS' := Lib.hid (HS.out (by
              rcases hi : inB l (j : Int) with _ | _
              · rw [hi, Bool.not_false, Bool.true_and] at hb; exact .inr (fitTo_end ht hb)
              · exact .inl rfl))
            clear HS hb
            by_cases htt : t < l.length
            all_goals
              go_wp2_with fail
              go_roundw
              case rel => exact ⟨⟨m, rfl⟩, j + 1, by omega, by go_num, HS'.out⟩
              case measure => simp [intOf]; omega
          · have hb1 : inB l (j : Int) = false ∧ fitTo rs l j kk t = true := by simpa using hb
            clear hb
            obtain ⟨hb1, hb2⟩ := hb1
            by_cases htt : t < l.length
            · clear HS
              obtain ⟨lb, lofs, hla, hlb, hlc⟩ := hl (Nat.lt_of_le_of_lt (Nat.zero_le t) htt)
              simp only [Option.some.injEq] at hla
              subst hla
              have hct := hlc t htt
              obtain ⟨u, hu⟩ : ∃ u : Nat, gi l t = u := ⟨(gi l t).toNat, by have := HhV.out t htt; omega⟩
              have hu2 : u < rs.length := by have := HhV.out t htt; omega
              rw [hu] at hct
              have HN : Hid ((!inB l (j : Int) && fitTo rs l j kk (t + 1)) = (decide (l.length - t ≤ kk) || !(gn rs u).testBit j)) := Lib.hid (by
                show (!inB l (j : Int) && (fitTo rs l j kk t && (decide (l.length - t ≤ kk) || !(gn rs (gi l t).toNat).testBit j))) = _
                rw [hb1, hb2, hu, Int.toNat_natCast]; simp)
              have hsub : (l.length : Int) - (t : Int) = ((l.length - t : Nat) : Int) := by omega
              have hA := fun m : Later W1 => l2Edge_any rs u j ro rc m.w (hr.later m) g hu2 hlt
              clear hlc hu hb1 hb2
              by_cases hd : l.length - t ≤ kk
              · have d3 : decide (((l.length - t : Nat) : Int) ≤ (kk : Int)) = true := decide_eq_true (by omega)
                go_wp2_with fail
                refine wp_region_later m rfl (by kernel_rfl) (by kernel_rfl) ?_
                repeat (go_big_quiet_step ((first | (go_at_call 92; exact Calls.later _ (hA _)))))
                refine wpQuiet_nil ?_
                rintro _ ⟨m, rfl⟩
                go_wp2_with fail
                go_roundw
                case rel => exact ⟨⟨m, rfl⟩, t + 1, by omega, by go_num, congrArg Value.bool (by rw [HN.out, decide_eq_true hd]; rfl)⟩
                case measure => simp [intOf]; omega
              · have d3 : decide (((l.length - t : Nat) : Int) ≤ (kk : Int)) = false := decide_eq_false (by omega)
                cases he : (gn rs u).testBit j
                all_goals
                  simp only [he] at hA
                  go_wp2_with fail
                  refine wp_region_later m rfl (by kernel_rfl) (by kernel_rfl) ?_
                  repeat (go_big_quiet_step ((first | (go_at_call 92; exact Calls.later _ (hA _)))))
                  refine wpQuiet_nil ?_
                  rintro _ ⟨m, rfl⟩
                  go_wp2_with fail
                  go_roundw
                  case rel => exact ⟨⟨m, rfl⟩, t + 1, by omega, by go_num, congrArg Value.bool (by rw [HN.out, decide_eq_false hd, he]; rfl)⟩
                  case measure => simp [intOf]; omega
            · have hm : mayBd rs kk (l ++ [(j : Int)]) = true := by rw [mayBd_app, show l.length = t by omega]; exact hb2
              have HG := (preF_go HhP.out).trans (flStep_dfs (q := fun _ => true) (N := rs.length) (f := f) hb1 hm rfl)
              have hih := fun (n lc : Nat) (la : Addr) (w : World) (h1 : n = (l ++ [(j : Int)]).length) h2 h3 => Hih.out (l ++ [(j : Int)]) n lc la w (by have := Hhlf.out; have := Hhx.out; omega) h1 h2 h3 (fun k hk => by
                by_cases e : k < l.length
                · rw [gi_left e]; exact HhV.out k e
                · obtain rfl : k = l.length := by have := Hhx.out; omega
                  rw [gi_last]; omega)
              generalize dfs (mayBd rs kk) (fun _ => true) rs.length f (l ++ [(j : Int)]) = O at *
              have Hhih := Lib.hid hih
              clear hih
              have HHG := Lib.hid HG
              clear HG
              clear hb1 hb2 hm HS
              have hS' : ∀ w', Below W1.heap.size W1 w' → Below W1.heap.size W1 w' ∧ w'.cell? ⟨w.heap.size, 0, none⟩ = some (.int .i64 rs.length) ∧ w'.cell? ⟨w.heap.size, 1, none⟩ = some (.slice ro rs.length rc) := fun w' h => ⟨h, (h.cell hb0).trans hc0, (h.cell hb0).trans hc1⟩
              go_wp2_with fail
              rcases O with _ | x
              · go_region_held3 (fun w' => Below W1.heap.size W1 w' ∧ w'.cell? ⟨w.heap.size, 0, none⟩ = some (.int .i64 rs.length) ∧ w'.cell? ⟨w.heap.size, 1, none⟩ = some (.slice ro rs.length rc))
                  (exact hS' _ (by first | exact m.below.drew | assumption | exact Below.alloc (And.left (by assumption : Below W1.heap.size W1 _ ∧ _)) (And.left (by assumption : Below W1.heap.size W1 _ ∧ _)).size _))
                  (first
                    | ((refine step_append_copy (by rfl) (.tmp 58) (.tmp 59) (by rfl) W1.heap.size _ la l lc (by rfl) (by rfl) (hl.below (And.left (by assumption : Below W1.heap.size W1 _ ∧ _))) (And.left (by assumption : Below W1.heap.size W1 _ ∧ _)).size (by omega) ?_); intro ao1 cap1 w1 hne1 hown1 hBw1; have hB2 : Below W1.heap.size W1 w1 := below_more (And.left (by assumption : Below W1.heap.size W1 _ ∧ _)) hBw1)
                    | ((refine step_append_e (by rfl) (.tmp 60) (.tmp 62) (by rfl) W1.heap.size cap1 ao1 l (j : Int) _ (by rfl) (by first | exact hown1 | exact hown1.below ((Below.refl _ _).alloc (Nat.le_refl _) _)) (by rfl) (by first | exact cell_new (by simp) | exact (hBw1.cell (by first | (simp; done) | (simp; omega))).trans (cell_new (by simp)) | exact (hBw1.cell (by first | (simp; done) | (simp; omega))).trans (cell_new2 (by simp))) (And.left (by assumption : Below W1.heap.size W1 _ ∧ _)).size (by omega) ?_); intro ao2 cap2 w2 hown2 hBw2; obtain ⟨lb2, lo2, rfl, -, -⟩ := hown2.ints (by simp); have hB3 : Below W1.heap.size W1 w2 := (And.left (by assumption : Below W1.heap.size W1 _ ∧ _)).trans hBw2)
                    | (go_at_call 64; go_must (refine (Hhih.out _ _ _ _ (by simp) (hr.below (And.left (by assumption : Below W1.heap.size W1 _ ∧ _))) (by first | exact hown2.ints)).mono ?_); rintro e w3 ⟨ao3, cap3, xs3, rfl, hB4, hI4, hE4, hN4⟩; have hB5 := below_more (And.left (by assumption : Below W1.heap.size W1 _ ∧ _)) hB4; dsimp only))
                all_goals
                  clear hS' hl hr hI4 hE4 hN4
                  go_wp2_with fail
                  go_roundw
                  case rel => exact ⟨⟨⟨w3, hB5⟩, rfl⟩, j + 1, by omega, by go_num, HHG.out⟩
                  case measure => simp [intOf]; omega
              · have HE := Lib.hid (dfs_hit hlt HHG.out)
                go_region_held3 (fun w' => Below W1.heap.size W1 w' ∧ w'.cell? ⟨w.heap.size, 0, none⟩ = some (.int .i64 rs.length) ∧ w'.cell? ⟨w.heap.size, 1, none⟩ = some (.slice ro rs.length rc))
                  (exact hS' _ (by first | exact m.below.drew | assumption | exact Below.alloc (And.left (by assumption : Below W1.heap.size W1 _ ∧ _)) (And.left (by assumption : Below W1.heap.size W1 _ ∧ _)).size _))
                  (first
                    | ((refine step_append_copy (by rfl) (.tmp 58) (.tmp 59) (by rfl) W1.heap.size _ la l lc (by rfl) (by rfl) (hl.below (And.left (by assumption : Below W1.heap.size W1 _ ∧ _))) (And.left (by assumption : Below W1.heap.size W1 _ ∧ _)).size (by omega) ?_); intro ao1 cap1 w1 hne1 hown1 hBw1; have hB2 : Below W1.heap.size W1 w1 := below_more (And.left (by assumption : Below W1.heap.size W1 _ ∧ _)) hBw1)
                    | ((refine step_append_e (by rfl) (.tmp 60) (.tmp 62) (by rfl) W1.heap.size cap1 ao1 l (j : Int) _ (by rfl) (by first | exact hown1 | exact hown1.below ((Below.refl _ _).alloc (Nat.le_refl _) _)) (by rfl) (by first | exact cell_new (by simp) | exact (hBw1.cell (by first | (simp; done) | (simp; omega))).trans (cell_new (by simp)) | exact (hBw1.cell (by first | (simp; done) | (simp; omega))).trans (cell_new2 (by simp))) (And.left (by assumption : Below W1.heap.size W1 _ ∧ _)).size (by omega) ?_); intro ao2 cap2 w2 hown2 hBw2; obtain ⟨lb2, lo2, rfl, -, -⟩ := hown2.ints (by simp); have hB3 : Below W1.heap.size W1 w2 := (And.left (by assumption : Below W1.heap.size W1 _ ∧ _)).trans hBw2)
                    | (go_at_call 64; go_must (refine (Hhih.out _ _ _ _ (by simp) (hr.below (And.left (by assumption : Below W1.heap.size W1 _ ∧ _))) (by first | exact hown2.ints)).mono ?_); rintro e w3 ⟨ao3, cap3, xs3, rfl, hB4, hI4, hE4, hN4⟩; have hB5 := below_more (And.left (by assumption : Below W1.heap.size W1 _ ∧ _)) hB4; dsimp only))
                all_goals
                  clear hS' hl hr hN4
                  obtain rfl := hE4 _ rfl
                  have HhI4 := Lib.hid hI4
                  clear hI4
                  go_wp2_with fail
                  go_ret2
                  rw [HE.out]
                  exact ⟨ao3, cap3, _, rfl, below_more' HhB.out hB5, HhI4.out, fun x h => Option.some.inj h, fun _ h => by cases h⟩
      · obtain rfl : j = rs.length := by omega
        have HE := Lib.hid (dfs_none HhP.out)
        go_wp2_with fail
        go_ret2
        rw [HE.out]
        exact ⟨_, _, [], rfl, (below_later HhB.out m).alloc (below_later HhB.out m).size _, fun h => absurd h (by simp), fun x h => absurd h (by simp), fun _ _ => rfl⟩

end Go.Proofs.Ytdbaflimcbidjaa
