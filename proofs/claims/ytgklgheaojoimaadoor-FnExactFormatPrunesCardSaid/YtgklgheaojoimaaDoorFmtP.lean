/-
  FormatPrunes of both sides. For at most 2^20 prunes.
-/
import Derived.Test.YtgklgheaojoimaaDoorFmtD
import Derived.Deep.RegionWith
import Derived.Deep.CutRange
namespace Go.Proofs.YtgklgheaojoimaaDoor
open Go.RowKit

theorem frP_lt {W w4 : World} {cs : Array Value} {T : TypeId} (h : Below (W.alloc (.cells cs T)).drew.heap.size (W.alloc (.cells cs T)).drew w4) : W.heap.size < w4.heap.size := Nat.lt_of_lt_of_le (by show W.heap.size < (W.alloc _).heap.size; simp) h.size
theorem frP_cell {W w4 : World} {cs : Array Value} {T : TypeId} (h : Below (W.alloc (.cells cs T)).drew.heap.size (W.alloc (.cells cs T)).drew w4) (i : Nat) : w4.cell? ⟨W.heap.size, i, none⟩ = cs[i]? := (h.cell (p := ⟨W.heap.size, i, none⟩) (by show W.heap.size < (W.alloc _).heap.size; simp)).trans ((Blk.made W cs T rfl).cell i)

def marks : Array Value := #[.string ⟨#[46]⟩, .string ⟨#[45]⟩, .string ⟨#[61]⟩, .string ⟨#[35]⟩]
theorem marks_at : ∀ q : Nat, q < 4 → marks[q]? = some (.string (kindS q))
  | 0, _ => congrArg (fun s => some (Value.string s)) (kindS_at ⟨0, by decide⟩).symm
  | 1, _ => congrArg (fun s => some (Value.string s)) (kindS_at ⟨1, by decide⟩).symm
  | 2, _ => congrArg (fun s => some (Value.string s)) (kindS_at ⟨2, by decide⟩).symm
  | 3, _ => congrArg (fun s => some (Value.string s)) (kindS_at ⟨3, by decide⟩).symm
  | k + 4, h => by omega

set_option maxRecDepth 100000 in
set_option maxHeartbeats 20000000 in
theorem specFmtPr_any (l : List Int) (ao : Option Addr) (K c : Nat) (w : World) (hl : IntsAt w ao l) (hk : l.length = K * 3) (hn : K ≤ 1048576) :
    Calls Tryd.prog 28 #[.slice ao K c] w fun e w' => e = .returned (.string (fmtPr l K)) ∧ Below w.heap.size w w' := by
  have Hhk := Lib.hid hk
  clear hk
  by_cases h7 : K ≤ 7
  · have d7 : decide ((K : Int) ≤ 7) = true := decide_eq_true (by omega)
    go_enter Tryd.func28, Tryd.ntmps28
    go_wp2_with fail
    go_loopw [3, 4] (fun s i wr => (∃ m : Later w, wr = m.w) ∧ ∃ k : Nat, k ≤ K ∧ i = .int .i64 k ∧ s = .string (prStr l k) ∧ ∀ j, j < k → prOk l j = true) (fun _ i _ => K - (intOf i).toNat)
    case atStart => exact ⟨⟨Later.refl _, rfl⟩, 0, by omega, rfl, rfl, fun j h => by omega⟩
    case round =>
      obtain ⟨⟨m, rfl⟩, k, hkK, rfl, rfl, hP⟩ := hrel
      by_cases hlt : k < K
      · obtain ⟨b, off, rfl, hb, hc⟩ := hl (by have := Hhk.out; omega)
        have x0 := hc (k * 3) (by have := Hhk.out; omega)
        have x1 := hc (k * 3 + 1) (by have := Hhk.out; omega)
        have x2 := hc (k * 3 + 2) (by have := Hhk.out; omega)
        rw [← Nat.add_assoc] at x1 x2
        clear hc
        have HB := Lib.hid (fun h => fmtPr_bad (l := l) hlt h)
        have HW : Hid (prStr l (k + 1) = (if k = 0 then prStr l k else prStr l k ++ ⟨#[32]⟩) ++ wordS l k) := rfl
        have HWd : Hid (wordS l k = (numS (gi l (k * 3)).toNat ++ kindS (gi l (k * 3 + 1)).toNat) ++ (if gi l (k * 3 + 2) = -1 then ⟨#[]⟩ else numS (gi l (k * 3 + 2)).toNat)) := rfl
        have HOk : Hid (prOk l k = ((decide (0 ≤ gi l (k * 3)) && decide (gi l (k * 3) ≤ 6)) && ((decide (0 ≤ gi l (k * 3 + 1)) && decide (gi l (k * 3 + 1) ≤ 3)) && (decide (-1 ≤ gi l (k * 3 + 2)) && decide (gi l (k * 3 + 2) ≤ 6))))) := rfl
        have hsz := prStr_size l k
        generalize prStr l k = S at *
        generalize gi l (k * 3) = V at *
        generalize gi l (k * 3 + 1) = Q at *
        generalize gi l (k * 3 + 2) = A at *
        have HhP := Lib.hid hP
        clear hP
        have HG : ∀ w : World, Hid (∀ v : Nat, v < 100 → Calls Tryd.prog 42 #[.int .i64 v] w fun e w' => e = .returned (.string (numS v)) ∧ Below w.heap.size w w') := fun w v hv => fmt_any v hv w
        cases h1 : (decide (0 ≤ V) && decide (V ≤ 6))
        · go_wp2_with (first | (go_at_call 47; refine (l1In_any _ _ _ _).mono ?_; rintro e w' ⟨rfl, rfl⟩))
          go_ret
          exact ⟨by rw [HB.out (by rw [HOk.out, h1]; rfl)]; rfl, m.below.alloc m.size _⟩
        · cases h2 : (decide (0 ≤ Q) && decide (Q ≤ 3))
          · go_wp2_with (first | (go_at_call 47; refine (l1In_any _ _ _ _).mono ?_; rintro e w' ⟨rfl, rfl⟩) | (go_at_call 47; refine (l1In_any _ _ _ _).mono ?_; rintro e w' ⟨rfl, rfl⟩))
            go_ret
            exact ⟨by rw [HB.out (by rw [HOk.out, h1, h2]; rfl)]; rfl, m.below.alloc m.size _⟩
          · cases h3 : (decide (-1 ≤ A) && decide (A ≤ 6))
            · go_wp2_with (first | (go_at_call 47; refine (l1In_any _ _ _ _).mono ?_; rintro e w' ⟨rfl, rfl⟩) | (go_at_call 47; refine (l1In_any _ _ _ _).mono ?_; rintro e w' ⟨rfl, rfl⟩) | (go_at_call 47; refine (l1In_any _ _ _ _).mono ?_; rintro e w' ⟨rfl, rfl⟩))
              go_ret
              exact ⟨by rw [HB.out (by rw [HOk.out, h1, h2, h3]; rfl)]; rfl, m.below.alloc m.size _⟩
            · have HO : Hid (prOk l k = true) := HOk.out.trans (by rw [h1, h2, h3]; rfl)
              rw [Bool.and_eq_true, decide_eq_true_eq, decide_eq_true_eq] at h1 h2 h3
              obtain ⟨v, rfl⟩ := Int.eq_ofNat_of_zero_le h1.1
              obtain ⟨q, rfl⟩ := Int.eq_ofNat_of_zero_le h2.1
              have HN := (HG · |>.out v (by omega))
              have hq : q < 4 := by omega
              have g1 : (decide ((0 : Int) ≤ (v : Int)) && decide ((v : Int) ≤ 6)) = true := by rw [decide_eq_true (by omega), decide_eq_true (by omega)]; rfl
              have g2 : (decide ((0 : Int) ≤ (q : Int)) && decide ((q : Int) ≤ 3)) = true := by rw [decide_eq_true (by omega), decide_eq_true (by omega)]; rfl
              have g3 : (decide (-1 ≤ A) && decide (A ≤ 6)) = true := by rw [decide_eq_true (by omega), decide_eq_true (by omega)]; rfl
              go_upto_if 38 with (first | (go_at_call 47; refine (l1In_any _ _ _ _).mono ?_; rintro e w' ⟨rfl, rfl⟩))
              obtain ⟨S2, hS2⟩ : ∃ S2, S2 = if k = 0 then S else S ++ ⟨#[32]⟩ := ⟨_, rfl⟩
              have HW2 : Hid (prStr l (k + 1) = S2 ++ wordS l k) := HW.out.trans (by rw [hS2])
              have n1 : S2.size ≤ 64 := by
                rw [hS2]
                split
                · omega
                · rw [ByteArray.size_append]; have e : (⟨#[32]⟩ : ByteArray).size = 1 := rfl; omega
              clear HW g1 g2 g3
              generalize hW2 : m.w.alloc _ = W2
              obtain ⟨hB2, hs2, k2⟩ := alloc1 hW2
              go_cut [3] from 37 to 59 (fun s wx => s = .string S2 ∧ wx = W2)
              case first =>
                by_cases hk0 : 0 < k
                · have d0 : decide ((0 : Int) < (k : Int)) = true := decide_eq_true (by omega)
                  go_wp2_with fail
                  go_meet
                  exact ⟨by rw [hS2, if_neg (by omega)], rfl⟩
                · have d0 : decide ((0 : Int) < (k : Int)) = false := decide_eq_false (by omega)
                  go_wp2_with fail
                  go_meet
                  exact ⟨by rw [hS2, if_pos (by omega)], rfl⟩
              case rest =>
                obtain ⟨rfl, hwc⟩ := hcut
                rw [hwc]
                clear hS2 hsz hwc
                go_upto_region 10 with fail
                have y0 := (k2.cell 0).trans (show _ = some (.int .i64 (v : Int)) from rfl)
                have y1 := (k2.cell 1).trans (show _ = some (.int .i64 (q : Int)) from rfl)
                have y2 := (k2.cell 2).trans (show _ = some (.int .i64 A) from rfl)
                have yb : m.w.heap.size < W2.heap.size := by omega
                have n3 := numS_size' v
                have n2 : (S2 ++ numS v).size ≤ 66 := by rw [ByteArray.size_append]; omega
                have n4 := kindS_size q
                have n5 : ((S2 ++ numS v) ++ kindS q).size ≤ 70 := by rw [ByteArray.size_append]; omega
                have zB : (W2.alloc (.cells marks 9)).drew.cell? ⟨m.w.heap.size + 1, q, none⟩ = some (.string (kindS q)) := by
                  rw [← hs2]; exact ((Blk.made W2 marks 9 rfl).drew.cell q).trans (marks_at q hq)
                have hB6 := m.below.trans (hB2.mono m.size)
                unfold marks at zB
                have HHN := Lib.hid HN
                clear HN
                clear hW2 k2
                go_cut [3] from 39 to 59 (fun s wx => s = .string ((S2 ++ numS v) ++ kindS q) ∧ ∃ m' : Later W2, wx = m'.w)
                case first =>
                  clear y2 hB2 hB6 HW2 HG HhP HB HO HOk HWd hl hb x0 x1 x2 hkK hlt h1 h2 h3 hn Hhk h7 d7
                  go_region_with (go_at_call 42; refine (HHN.out _).mono ?_; rintro e w4 ⟨rfl, hB3⟩; (first | (have hB5 : Below W2.heap.size W2 w4 := below_more (Below.refl _ _).drew hB3; have zC := ((Blk.made w4 marks 9 rfl).cell q).trans (marks_at q hq); unfold marks at zC) | (have hB5 : Below W2.heap.size W2 w4 := below_more ((Below.refl W2.heap.size W2).alloc (Nat.le_refl _) _).drew hB3; have zz := (frP_cell hB3 q).trans (marks_at q hq); have zl := frP_lt hB3; rw [hs2] at zz zl)); have z1 := (hB5.cell (p := ⟨m.w.heap.size, 1, none⟩) yb).trans y1; have zb := Nat.lt_of_lt_of_le yb hB5.size; dsimp only)
                  all_goals
                    go_wp2_with fail
                    go_meet
                    first
                      | exact ⟨rfl, ⟨⟨_, hB5⟩, rfl⟩⟩
                      | exact ⟨rfl, ⟨⟨_, hB5.alloc hB5.size _⟩, rfl⟩⟩
                case rest =>
                  obtain ⟨rfl, m', rfl⟩ := hcut
                  have yb' := Nat.lt_of_lt_of_le yb m'.size
                  replace y0 := (m'.cell _ 0 yb).trans y0
                  replace y1 := (m'.cell _ 1 yb).trans y1
                  replace y2 := (m'.cell _ 2 yb).trans y2
                  have HS3 : Hid (∀ t : ByteArray, S2 ++ ((numS v ++ kindS q) ++ t) = ((S2 ++ numS v) ++ kindS q) ++ t) := fun t => by rw [ByteArray.append_assoc, ByteArray.append_assoc, ByteArray.append_assoc]
                  generalize (S2 ++ numS v) ++ kindS q = S3 at *
                  have hB7 := below_more hB6 m'.below
                  by_cases hA : A = -1
                  · subst hA
                    go_wp2_with fail
                    go_roundw
                    case rel => exact ⟨⟨⟨_, hB7⟩, rfl⟩, k + 1, by omega, by go_num, congrArg Value.string (by rw [HW2.out, HWd.out, if_pos rfl, Int.toNat_natCast, Int.toNat_natCast, HS3.out, app_nil]), all_succ HhP.out HO⟩
                    case measure => simp [intOf]; omega
                  · obtain ⟨a, rfl⟩ := Int.eq_ofNat_of_zero_le (show 0 ≤ A by omega)
                    have HA := (HG · |>.out a (by omega))
                    have n6 := numS_size' a
                    go_wp2_with (first | (go_at_call 42; refine (HA _).mono ?_; rintro e w5 ⟨rfl, hB8⟩))
                    go_roundw
                    case rel => exact ⟨⟨⟨_, below_more hB7 hB8⟩, rfl⟩, k + 1, by omega, by go_num, congrArg Value.string (by rw [HW2.out, HWd.out, if_neg (by omega), Int.toNat_natCast, Int.toNat_natCast, Int.toNat_natCast, HS3.out]), all_succ HhP.out HO⟩
                    case measure => simp [intOf]; omega
      · obtain rfl : k = K := by omega
        have HE := Lib.hid (fmtPr_of h7 hP)
        clear hP
        go_wp2_with fail
        go_ret
        exact ⟨by rw [HE.out]; rfl, m.below⟩
  · have d7 : decide ((K : Int) ≤ 7) = false := decide_eq_false (by omega)
    have HE := Lib.hid (fmtPr_long (l := l) h7)
    have h0 : decide ((0 : Int) < (K : Int)) = true := decide_eq_true (by omega)
    go_enter Tryd.func28, Tryd.ntmps28
    go_wp2_with fail
    go_loopw [3, 4] (fun s i wr => wr = w ∧ i = .int .i64 0 ∧ s = .string ⟨#[]⟩) (fun _ _ _ => 0)
    case atStart => exact ⟨rfl, rfl, rfl⟩
    case round =>
      obtain ⟨rfl, rfl, rfl⟩ := hrel
      go_wp2_with fail
      go_ret
      exact ⟨by rw [HE.out]; rfl, Below.refl _ _⟩

end Go.Proofs.YtgklgheaojoimaaDoor
