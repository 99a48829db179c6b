/-
  The walk of IsSimple of the program. For at most 2^20 rows.
-/
import Derived.Test.YtgklgheaojoimaaPkLawStrong40
import Derived.Test.YtgklgheaojoimaaPkLawStrong07
import Derived.Deep.RegionHeld3
namespace Go.Proofs.Ytgklgheaojoimaa
open Go.RowKit

theorem OwnE.room {w : World} {base cap : Nat} {ao : Option Addr} {xs : List Int} (h : OwnE w base ao cap xs) : xs.length ≤ cap := by
  rcases h with ⟨hl, ⟨h1, h2⟩ | ⟨g, cp, cur, hv, hg, hb, hn, hm, hsz, ht⟩⟩ | ⟨rfl, -, -⟩
  · omega
  · simp only [Value.slice.injEq] at hv
    omega
  · simp

theorem wpList_later_drew2 {W : World} {P : Program} {ops : Array Oper} {Q : Exit → Act → World → Prop} {rest : List Oper} {a : Act} (m : Later W) (h : ∀ m' : Later W, Below m.w.heap.size m.w m'.w → wpList P ops Q rest a m'.w) : wpList P ops Q rest a m.w.drew :=
  h ⟨m.w.drew, m.below.drew⟩ (Below.refl _ _).drew

/-- The closed hoods of the first k vertices of a list. -/
def hoodsTo (rs : List Int) (S : Nat) (l : List Nat) (k : Nat) : List Int := (l.take k).map fun u => (hood rs S u : Int)
theorem hoodsTo_succ {rs : List Int} {S k : Nat} {l : List Nat} (hk : k < l.length) : hoodsTo rs S l (k + 1) = hoodsTo rs S l k ++ [(hood rs S (eln l k) : Int)] := by
  unfold hoodsTo; rw [take_eln hk, List.map_append]; rfl
theorem hoodsTo_len {rs : List Int} {S k : Nat} {l : List Nat} (hk : k ≤ l.length) : (hoodsTo rs S l k).length = k := by
  unfold hoodsTo; rw [List.length_map, List.length_take]; omega
theorem hoodsTo_at {rs : List Int} {S k n : Nat} {l : List Nat} (hk : k < n) (hn : n ≤ l.length) : gi (hoodsTo rs S l n) k = (hood rs S (eln l k) : Int) := by
  have h : k < l.length := by omega
  simp [hoodsTo, gi, eln, hk, h]
theorem nest_diff (a b : Nat) (b1 b2 : Bool) (h1 : ((nDiff a b : Int) != 0) = b1) (h2 : ((nDiff b a : Int) != 0) = b2) : nestB a b = !(b1 && b2) := by
  have e : ∀ x y : Nat, nDiff x y = 0 ↔ x &&& y = x := fun x y => by
    unfold nDiff
    constructor
    · intro h
      apply Nat.eq_of_testBit_eq
      intro i
      have := congrArg (fun z => z.testBit i) h
      simp only [Nat.testBit_xor, Nat.zero_testBit, bne_eq_false_iff_eq] at this
      exact this.symm
    · intro h
      rw [h, Nat.xor_self]
  have e1 := e a b
  have e2 := e b a
  rw [Nat.and_comm] at e2
  rw [← h1, ← h2]
  unfold nestB
  rw [Bool.eq_iff_iff, decide_eq_true_eq]
  simp only [Bool.not_eq_true', Bool.and_eq_false_iff, bne_eq_false_iff_eq]
  omega

set_option maxRecDepth 100000 in
set_option maxHeartbeats 1000000 in
theorem implIsSimple_any (n : Int) (rs : List Int) (v s : Int) (ro : Option Addr) (rc : Nat) (w : World) (hr : IntsAt w ro rs) (hrl : rs.length ≤ 1048576) :
    Calls Try.prog 44 #[.agg #[.int .i64 n, .slice ro rs.length rc], .int .i64 v, .int .i64 s] w fun e w' => e = .returned (.bool (simpleB n rs v s)) ∧ Below w.heap.size w w' := by
  go_enter Try.func44, Try.ntmps44
  go_wp2_with fail
  generalize hW : w.alloc _ = W1
  obtain ⟨hB, -, k0⟩ := alloc1 hW
  replace hr := hr.below hB
  have hb0 := k0.lt
  have hc0 := k0.cell 0
  have hc1 := k0.cell 1
  simp at hc0 hc1
  clear hW k0
  have HhB := Lib.hid hB
  clear hB
  obtain ⟨m, hm0⟩ : ∃ m : Later W1, m.w = W1 := ⟨Later.refl _, rfl⟩
  refine (fun h => hm0 ▸ h) ?_
  clear hm0
  cases hv : isSetB n rs s
  · have HE := Lib.hid (simpleB_no (v := v) hv)
    go_wp2_with (first | (go_at_call 93; refine (Calls.later m (implIsSet_any _ _ _ _ _ _ (hr.later m) hrl)).mono ?_; rintro e w' ⟨rfl, m, rfl⟩))
    go_ret
    exact ⟨retB (by rw [HE.out]), below_later HhB.out m⟩
  obtain ⟨rfl, g, S, rfl, hS⟩ := isSetB_true hv
  have hg1 := g.pos
  have hg2 := g.le
  cases hw : (decide (0 ≤ v) && decide (v ≤ (rs.length : Int) - 1))
  · have HE := Lib.hid (simpleB_out (rs := rs) (s := S) hw)
    go_wp2_with (first | (go_at_call 93; refine (Calls.later m (implIsSet_any _ _ _ _ _ _ (hr.later m) hrl)).mono ?_; rintro e w' ⟨rfl, m, rfl⟩) | (go_at_call 119; refine (within_any _ _ _ _).mono ?_; rintro e w' ⟨rfl, rfl⟩))
    go_ret
    exact ⟨retB (by rw [HE.out]), below_later HhB.out m⟩
  have hw' := hw
  simp only [Bool.and_eq_true, decide_eq_true_eq] at hw'
  obtain ⟨v, rfl⟩ : ∃ v' : Nat, v = v' := ⟨v.toNat, by omega⟩
  have hvl : v < rs.length := by omega
  clear hw'
  have hHas := fun w => has_any S v (by omega) (by omega) w
  simp only [Int.toNat_natCast] at hHas
  cases hb : hasN (S : Int) v
  · have HE := Lib.hid (simpleB_not (n := rs.length) (rs := rs) hb)
    simp only [hb] at hHas
    go_wp2_with (first | (go_at_call 93; refine (Calls.later m (implIsSet_any _ _ _ _ _ _ (hr.later m) hrl)).mono ?_; rintro e w' ⟨rfl, m, rfl⟩) | (go_at_call 119; refine (within_any _ _ _ _).mono ?_; rintro e w' ⟨rfl, rfl⟩) | (go_at_call 86; refine (hHas _).mono ?_; rintro e w' ⟨rfl, rfl⟩))
    go_ret
    exact ⟨retB (by rw [HE.out]), below_later HhB.out m⟩
  · have HE := Lib.hid (simpleB_yes hv hw hb)
    simp only [hb] at hHas
    obtain ⟨q1, q2, q3⟩ := hood_facts g hS hvl
    have q4 : bits .and .i64 (bits .or .i64 (gn rs v : Int) ((2 : Int) ^ v)) (S : Int) = ((hood rs S v : Nat) : Int) := by rw [show ((2 : Int) ^ v) = ((2 ^ v : Nat) : Int) by simp, q2, q3]
    have hp := g.pow.1
    have hH := hood_lt hS v
    generalize hHd : hood rs S v = H at *
    have HhHd := Lib.hid hHd
    clear hHd
    go_wp2_with (first | (go_at_call 93; refine (Calls.later m (implIsSet_any _ _ _ _ _ _ (hr.later m) hrl)).mono ?_; rintro e w' ⟨rfl, m, rfl⟩) | (go_at_call 119; refine (within_any _ _ _ _).mono ?_; rintro e w' ⟨rfl, rfl⟩) | (go_at_call 86; refine (hHas _).mono ?_; rintro e w' ⟨rfl, rfl⟩))
    have hO := OwnL.empty m.w
    have hB3 : Below m.w.heap.size m.w (m.w.alloc (.cells #[] 3)) := (Below.refl _ _).alloc (Nat.le_refl _) _
    generalize m.w.alloc (.cells #[] 3) = W3 at *
    clear hc0 hHas
    replace hr := hr.later m
    replace hc1 : m.w.cell? _ = _ := (m.cell _ _ hb0).trans hc1
    replace hb0 := Nat.lt_of_lt_of_le hb0 m.size
    replace HhB := Lib.hid (below_later HhB.out m)
    generalize m.w = W2 at *
    clear m
    obtain ⟨rb, rofs, rfl, hrb, hrc⟩ := hr.graph g
    have hvc := hrc v hvl
    have hS' : ∀ w', Below W3.heap.size W3 w' → Below W3.heap.size W3 w' ∧ w'.cell? ⟨w.heap.size, 1, none⟩ = some (.slice (some ⟨rb, rofs, none⟩) rs.length rc) ∧ w'.cell? ⟨rb, rofs + v, none⟩ = some (.int .i64 (gn rs v : Int)) := fun w' h =>
      have h' := below_more hB3 h
      ⟨h, (h'.cell hb0).trans hc1, (h'.cell (p := ⟨rb, rofs + v, none⟩) hrb).trans hvc⟩
    obtain ⟨m, hm0⟩ : ∃ m : Later W3, m.w = W3 := ⟨Later.refl _, rfl⟩
    refine (fun h => hm0 ▸ h) ?_
    clear hm0
    go_region_held3 (fun w' => Below W3.heap.size W3 w' ∧ w'.cell? ⟨w.heap.size, 1, none⟩ = some (.slice (some ⟨rb, rofs, none⟩) rs.length rc) ∧ w'.cell? ⟨rb, rofs + v, none⟩ = some (.int .i64 (gn rs v : Int)))
      (exact hS' _ (by first | exact m.below.drew | assumption))
      (first
        | (go_at_call 73; go_must (refine (implListN_any _ (by omega) _).mono ?_); rintro e w4 ⟨lo, lc, rfl, hB4, hL⟩; have hB5 := below_more (And.left (by assumption : Below W3.heap.size W3 _ ∧ _)) hB4))
    replace hr := (hr.below hB3).below hB5
    replace hc1 : w4.cell? _ = _ := (hB5.cell (Nat.lt_of_lt_of_le hb0 hB3.size)).trans ((hB3.cell hb0).trans hc1)
    replace hb0 := Nat.lt_of_lt_of_le (Nat.lt_of_lt_of_le hb0 hB3.size) hB5.size
    replace HhB := Lib.hid (below_more' (below_more' HhB.out hB3) hB5)
    have HO := Lib.hid (OwnE.empty w4 w4.heap.size ⟨W2.heap.size, 0, none⟩)
    have hc7 := cnt_le H
    clear hB4 hB5 hB3 hS' hO hrb hrc hvc q1 q2 q3 q4
    generalize (⟨W2.heap.size, 0, none⟩ : Addr) = na at *
    go_wp2_with fail
    go_loopw [7, 45] (fun o i wr => ∃ m : Later w4, wr = m.w ∧ ∃ k : Nat, k ≤ cnt H ∧ i = .int .i64 k ∧ ∃ ao cap, o = .slice ao (hoodsTo rs S (els H) k).length cap ∧ OwnE m.w w4.heap.size ao cap (hoodsTo rs S (els H) k)) (fun _ i _ => cnt H - (intOf i).toNat)
    case atStart => exact ⟨Later.refl _, rfl, 0, by omega, rfl, _, _, rfl, HO.out⟩
    case round =>
      obtain ⟨m, rfl, k, hk, rfl, ao, cap, rfl, hO⟩ := hrel
      have HhO := Lib.hid hO
      clear hO
      have hms := m.size
      by_cases hlt : k < cnt H
      · have hl7 : (hoodsTo rs S (els H) k).length ≤ 7 := by rw [hoodsTo_len hk]; omega
        obtain ⟨rb', rofs', e', hrb, hrc⟩ := hr.graph g
        obtain ⟨rfl, rfl⟩ : rb = rb' ∧ rofs = rofs' := by simpa using e'
        obtain ⟨lb, lofs, rfl, hlb, hlc⟩ := hL (by unfold cnt at hlt; omega)
        have hx1 := (els_at hH hg2 hlt).1
        have hxc := hlc k hlt
        have HU : Hid (hoodsTo rs S (els H) (k + 1) = hoodsTo rs S (els H) k ++ [(hood rs S (eln (els H) k) : Int)]) := hoodsTo_succ hlt
        clear hlc e'
        generalize eln (els H) k = x at *
        obtain ⟨a1, a2, a3⟩ := hood_facts g hS hx1
        have a4 : bits .and .i64 (bits .or .i64 (gn rs x : Int) ((2 : Int) ^ x)) (S : Int) = ((hood rs S x : Nat) : Int) := by rw [show ((2 : Int) ^ x) = ((2 ^ x : Nat) : Int) by simp, a2, a3]
        go_wp2_with fail
        have hS' : ∀ w', Below w4.heap.size w4 w' → Below w4.heap.size w4 w' ∧ w'.cell? ⟨w.heap.size, 1, none⟩ = some (.slice (some ⟨rb, rofs, none⟩) rs.length rc) ∧ w'.cell? ⟨rb, rofs + x, none⟩ = some (.int .i64 (gn rs x : Int)) := fun w' h =>
          ⟨h, (h.cell hb0).trans hc1, (h.cell (p := ⟨rb, rofs + x, none⟩) hrb).trans (hrc x hx1)⟩
        clear hlb hxc
        go_region_held3 (fun w' => Below w4.heap.size w4 w' ∧ w'.cell? ⟨w.heap.size, 1, none⟩ = some (.slice (some ⟨rb, rofs, none⟩) rs.length rc) ∧ w'.cell? ⟨rb, rofs + x, none⟩ = some (.int .i64 (gn rs x : Int)))
          (exact hS' _ (by first | exact m.below.drew | exact m.below.drew.alloc hms _ | assumption))
          (first
            | ((refine step_append_e (by rfl) _ _ (by rfl) w4.heap.size cap ao _ (hood rs S x : Int) m.w.heap.size (by rfl) (HhO.out.below ((Below.refl _ _).drew.alloc (Nat.le_refl _) _)) (by rfl) (cell_of_one (heap_alloc_new _ _)) (by simp; omega) (by omega) ?_); intro ao' cap' w1 hown1 hB1; have hB2 := (m.below.drew.alloc hms _).trans hB1))
        clear hS'
        go_wp2_with fail
        go_roundw
        case rel => exact ⟨⟨w1, hB2⟩, rfl, k + 1, by omega, by go_num, ao', cap', by rw [HU.out]; simp, by rw [HU.out]; exact hown1⟩
        case measure => simp [intOf]; omega
      · obtain rfl : k = cnt H := by omega
        have hX := HhO.out.ints
        have hcap := HhO.out.room
        have hxl : (hoodsTo rs S (els H) (cnt H)).length = cnt H := hoodsTo_len (Nat.le_refl _)
        have HA : Hid (∀ i, i < cnt H → gi (hoodsTo rs S (els H) (cnt H)) i = (hood rs S (eln (els H) i) : Int)) := fun i hi => hoodsTo_at hi (Nat.le_refl _)
        clear HhO HO hlt hk hc1 hb0 hL hr
        generalize hoodsTo rs S (els H) (cnt H) = xs at *
        rw [hxl] at hcap
        replace HhB := Lib.hid (below_later HhB.out m)
        generalize m.w = W5 at *
        clear m
        go_wp2_with fail
        go_loopw [65] (fun i wr => (∃ m : Later W5, wr = m.w) ∧ ∃ k : Nat, k ≤ cnt H ∧ i = .int .i64 k ∧ ∀ i, i < k → ∀ j, j < i → nestAt rs S (els H) i j = true) (fun i _ => cnt H - (intOf i).toNat)
        case atStart => exact ⟨⟨Later.refl _, rfl⟩, 0, by omega, rfl, fun j h => by omega⟩
        case round =>
          obtain ⟨⟨m, rfl⟩, k, hk, rfl, hP⟩ := hrel
          have HhP := Lib.hid hP
          clear hP
          by_cases hlt : k < cnt H
          · obtain ⟨lb, lofs, rfl, hlb, hlc⟩ := hX (by omega)
            have hkc := hlc k (by omega)
            rw [HA.out k hlt] at hkc
            have hA := hood_lt hS (eln (els H) k)
            have HQ : Hid (∀ t, nestAt rs S (els H) k t = nestB (hood rs S (eln (els H) k)) (hood rs S (eln (els H) t))) := fun t => rfl
            generalize hood rs S (eln (els H) k) = A at *
            have hkcap : k ≤ cap := by omega
            have Hhlc := Lib.hid hlc
            clear hlc
            go_wp2_with fail
            go_loopw [74] (fun i wr => (∃ m : Later W5, wr = m.w) ∧ ∃ t : Nat, t ≤ k ∧ i = .int .i64 t ∧ ∀ j, j < t → nestAt rs S (els H) k j = true) (fun i _ => k - (intOf i).toNat)
            case atStart => exact ⟨⟨m, rfl⟩, 0, by omega, rfl, fun j h => by omega⟩
            case round =>
              obtain ⟨⟨m, rfl⟩, t, ht, rfl, hR⟩ := hrel
              have HhR := Lib.hid hR
              clear hR
              by_cases htt : t < k
              · have htc := Hhlc.out t (by omega)
                rw [HA.out t (by omega)] at htc
                have hB := hood_lt hS (eln (els H) t)
                have q1 := bits_andNot_nat A (hood rs S (eln (els H) t)) (by omega)
                have q2 := bits_andNot_nat (hood rs S (eln (els H) t)) A (by omega)
                have HN : Hid (∀ b1 b2, ((nDiff A (hood rs S (eln (els H) t)) : Int) != 0) = b1 → ((nDiff (hood rs S (eln (els H) t)) A : Int) != 0) = b2 → nestAt rs S (els H) k t = !(b1 && b2)) := fun b1 b2 h1 h2 => by rw [HQ.out]; exact nest_diff _ _ _ _ h1 h2
                generalize hood rs S (eln (els H) t) = B at *
                generalize nDiff A B = C1 at *
                generalize nDiff B A = C2 at *
                cases c1 : ((C1 : Int) != 0)
                · go_wp2_with fail
                  go_roundw
                  case rel => exact ⟨⟨m, rfl⟩, t + 1, by omega, by go_num, all_succ HhR.out (by rw [HN.out _ _ c1 rfl]; rfl)⟩
                  case measure => simp [intOf]; omega
                · cases c2 : ((C2 : Int) != 0)
                  · go_wp2_with fail
                    go_roundw
                    case rel => exact ⟨⟨m, rfl⟩, t + 1, by omega, by go_num, all_succ HhR.out (by rw [HN.out _ _ c1 c2]; rfl)⟩
                    case measure => simp [intOf]; omega
                  · go_wp2_with fail
                    go_ret
                    have HJ := simpleN_bad (v := v) (by rw [HhHd.out]; exact hlt) htt (by rw [HhHd.out, HN.out _ _ c1 c2]; rfl)
                    exact ⟨retB (by rw [HE.out, HJ]), below_later HhB.out m⟩
              · go_wp2_with fail
                go_roundw
                case rel => exact ⟨⟨m, rfl⟩, k + 1, by omega, by go_num, all_succ HhP.out (fun j h => HhR.out j (by omega))⟩
                case measure => simp [intOf]; omega
          · have HJ : Hid (simpleN rs S v = true) := simpleN_ok (by rw [HhHd.out]; exact fun i h => HhP.out i (by omega))
            go_wp2_with fail
            go_ret
            exact ⟨retB (by rw [HE.out, HJ.out]), below_later HhB.out m⟩

end Go.Proofs.Ytgklgheaojoimaa
