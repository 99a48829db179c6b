/-
  l6Simplicial, EliminationOf and IsChordal of the reference. For at most 2^20 rows.
-/
import Derived.Test.YtgklgheaojoimaaPkLawStrong41
import Derived.Test.YtgklgheaojoimaaPkLawStrong18
namespace Go.Proofs.Ytgklgheaojoimaa
open Go.RowKit

/-- The least vertex of a set of which something holds. -/
def leastP (p : Nat → Nat → Bool) (N S : Nat) : Option Nat := firstB (fun v => p S v) N
/-- Such vertices, taken away one by one. -/
def takeF (p : Nat → Nat → Bool) (N : Nat) : Nat → Nat → List Int → Option (List Int)
  | 0, _, out => some out
  | f + 1, S, out => if S = 0 then some out else match leastP p N S with | none => none | some v => takeF p N f (S - 2 ^ v) (out ++ [(v : Int)])
theorem takeF_zero {p : Nat → Nat → Bool} {N : Nat} (f : Nat) (out : List Int) : takeF p N f 0 out = some out := by cases f <;> rfl
theorem takeF_none {p : Nat → Nat → Bool} {N f S : Nat} {out : List Int} (hS : S ≤ f) (h0 : 0 < S) (h : leastP p N S = none) : takeF p N f S out = none := by
  obtain ⟨f, rfl⟩ : ∃ f', f = f' + 1 := ⟨f - 1, by omega⟩
  show (if S = 0 then some out else _) = none
  rw [if_neg (by omega), h]
theorem takeF_some {p : Nat → Nat → Bool} {N f S v : Nat} {out : List Int} (hS : S ≤ f) (h0 : 0 < S) (h : leastP p N S = some v) : takeF p N f S out = takeF p N (f - 1) (S - 2 ^ v) (out ++ [(v : Int)]) := by
  obtain ⟨f, rfl⟩ : ∃ f', f = f' + 1 := ⟨f - 1, by omega⟩
  show (if S = 0 then some out else _) = _
  rw [if_neg (by omega), h]; rfl
theorem takeF_len {p : Nat → Nat → Bool} {N : Nat} : ∀ (f S : Nat) (out : List Int), ((takeF p N f S out).getD []).length ≤ out.length + f := by
  intro f
  induction f with
  | zero => intro S out; simp [takeF]
  | succ f ih =>
    intro S out
    show ((if S = 0 then some out else (match leastP p N S with | none => none | some v => takeF p N f (S - 2 ^ v) (out ++ [(v : Int)]))).getD []).length ≤ _
    split
    · simp
    · split
      · simp
      · rename_i v _
        have := ih (S - 2 ^ v) (out ++ [(v : Int)])
        simp at this; omega
theorem DownTo.leastP {p : Nat → Nat → Bool} {N S : Nat} {b : Int} (h : DownTo (fun v => p S v) N 0 b) : (b = -1 ∧ leastP p N S = none) ∨ ∃ k : Nat, b = k ∧ leastP p N S = some k := by
  rcases h with ⟨h1, h2⟩ | ⟨k, h1, h2, h3, h4, h5⟩
  · exact .inl ⟨h1, firstB_none fun j hj => h2 j (by omega) hj⟩
  · exact .inr ⟨k, h1, firstB_hit h3 (fun j hj => h5 j (by omega) hj) h4⟩

/-- A vertex whose neighbours within a set are a clique. -/
def splB (rs : List Int) (S v : Nat) : Bool := S.testBit v && cliqueN rs (gn rs v &&& S)
def elimV (n : Int) (rs : List Int) : Option (List Int) := if isGraphB n rs = true then takeF (splB rs) rs.length (2 ^ rs.length - 1) (2 ^ rs.length - 1) [] else none
theorem elimV_no {n : Int} {rs : List Int} (h : isGraphB n rs = false) : elimV n rs = none := by unfold elimV; rw [h]; rfl
theorem elimV_of {n : Int} {rs : List Int} (h : isGraphB n rs = true) : elimV n rs = takeF (splB rs) rs.length (2 ^ rs.length - 1) (2 ^ rs.length - 1) [] := by unfold elimV; rw [if_pos h]
theorem elimV_len (n : Int) (rs : List Int) : ((elimV n rs).getD []).length ≤ 1048576 := by
  unfold elimV; split
  · rename_i h
    have := takeF_len (p := splB rs) (N := rs.length) (2 ^ rs.length - 1) (2 ^ rs.length - 1) []
    have := (VG.of h).2.pow.1
    simp at *; omega
  · simp
theorem splB_left {rs : List Int} {S v : Nat} (h : leastP (splB rs) rs.length S = some v) : v < rs.length ∧ S.testBit v = true ∧ 2 ^ v ≤ S ∧ 0 < 2 ^ v := by
  unfold leastP firstB at h
  have h1 := List.find?_some h
  have h2 := List.mem_of_find?_eq_some h
  unfold splB at h1
  rw [Bool.and_eq_true] at h1
  exact ⟨by simpa using h2, h1.1, Nat.ge_two_pow_of_testBit h1.1, Nat.two_pow_pos _⟩
def chordalB (n : Int) (rs : List Int) : Bool := (elimV n rs).isSome

set_option maxRecDepth 100000 in
set_option maxHeartbeats 1000000 in
theorem l6Simplicial_any (rs : List Int) (S v : Nat) (ro : Option Addr) (rc : Nat) (w : World) (hr : IntsAt w ro rs) (hv : isGraphB rs.length rs = true) (hS : S < 2 ^ rs.length) (hlt : v < rs.length) :
    Calls Try.prog 167 #[.agg #[.int .i64 rs.length, .slice ro rs.length rc], .int .i64 v, .int .i64 S] w fun e w' => e = .returned (.bool (cliqueN rs (gn rs v &&& S))) ∧ Below w.heap.size w w' := by
  obtain ⟨-, g⟩ := VG.of hv
  have hg2 := g.le
  have hp := g.pow.1
  have hl := g.lt v hlt
  have q4 : gn rs v &&& S < 2 ^ rs.length := Nat.lt_of_le_of_lt Nat.and_le_right hS
  have hI := isSetB_mk hv q4
  have HC := fun w ro rc hr => specIsClique_any rs.length rs ((gn rs v &&& S : Nat) : Int) ro rc w hr (by omega)
  rw [cliqueB_nat hI] at HC
  have q2 : bits .and .i64 (gn rs v : Int) (S : Int) = ((gn rs v &&& S : Nat) : Int) := bits_and_nat _ _ (by omega) (by omega)
  obtain ⟨rb, rofs, rfl, hrb, hrc⟩ := hr.graph g
  have hvc := hrc v hlt
  clear hrc hI hv
  go_enter Try.func167, Try.ntmps167
  go_wp2_with fail
  generalize hW : w.alloc _ = W1
  obtain ⟨hB, -, k0⟩ := alloc1 hW
  replace hr := hr.below hB
  have hvc1 : W1.cell? ⟨rb, rofs + v, none⟩ = _ := (hB.cell hrb).trans hvc
  have hrb1 : rb < W1.heap.size := Nat.lt_of_lt_of_le hrb hB.size
  have hb0 := k0.lt
  have hc0 := k0.cell 0
  have hc1 := k0.cell 1
  simp at hc0 hc1
  have HhB := Lib.hid hB
  clear hB hW k0 hvc hrb
  generalize hCC : cliqueN rs (gn rs v &&& S) = C at HC
  generalize gn rs v &&& S = A at HC q2
  have hcl := fun m : Later W1 => HC m.w _ rc (hr.later m)
  clear HC
  obtain ⟨m, hm0⟩ : ∃ m : Later W1, m.w = W1 := ⟨Later.refl _, rfl⟩
  refine (fun h => hm0 ▸ h) ?_
  clear hm0
  refine wp_region_later m rfl (by kernel_rfl) (by kernel_rfl) ?_
  repeat (go_big_quiet_step ((first | (go_at_call 166; exact Calls.later _ (hcl _)))))
  refine wpQuiet_nil ?_
  rintro _ ⟨m, rfl⟩
  go_wp2_with fail
  go_ret
  exact ⟨by simp [hCC], below_later HhB.out m⟩

set_option maxRecDepth 100000 in
set_option maxHeartbeats 2000000 in
theorem specElim_any (n : Int) (rs : List Int) (ro : Option Addr) (rc : Nat) (w : World) (hr : IntsAt w ro rs) (hrl : rs.length ≤ 1048576) :
    Calls Try.prog 127 #[.agg #[.int .i64 n, .slice ro rs.length rc]] w (RetI w (elimV n rs)) := by
  go_enter Try.func127, Try.ntmps127
  go_wp2_with fail
  generalize hW : w.alloc _ = W1
  obtain ⟨hB, -, k0⟩ := alloc1 hW
  replace hr := hr.below hB
  have hb0 := k0.lt
  have hc0 := k0.cell 0
  have hc1 := k0.cell 1
  simp at hc0 hc1
  clear hW k0
  have HhB := Lib.hid hB
  clear hB
  generalize hW2 : W1.alloc _ = W2
  obtain ⟨hB2, -, -⟩ := alloc1 hW2
  replace hr := hr.below hB2
  replace hc0 := (hB2.cell (p := ⟨w.heap.size, 0, none⟩) hb0).trans hc0
  replace hc1 := (hB2.cell (p := ⟨w.heap.size, 1, none⟩) hb0).trans hc1
  replace hb0 := Nat.lt_of_lt_of_le hb0 hB2.size
  replace HhB := Lib.hid (below_more' HhB.out hB2)
  clear hB2 hW2
  have hO := OwnE.empty W2 W2.heap.size ⟨w.heap.size + 1, 0, none⟩
  generalize (⟨w.heap.size + 1, 0, none⟩ : Addr) = na at *
  obtain ⟨m, hm0⟩ : ∃ m : Later W2, m.w = W2 := ⟨Later.refl _, rfl⟩
  refine (fun h => hm0 ▸ h) ?_
  clear hm0
  cases hv : isGraphB n rs
  · have HE := Lib.hid (elimV_no hv)
    go_wp2_with (first | (go_at_call 14; refine (Calls.later m (specIsGraph_any _ _ _ _ _ (hr.later m) hrl)).mono ?_; rintro e w' ⟨rfl, m, rfl⟩))
    go_ret2
    exact ⟨_, _, by rw [HE.out]; rfl, below_later HhB.out m, by rw [HE.out]; exact fun h => absurd h (by simp)⟩
  · have HE := Lib.hid (elimV_of hv)
    have Hhv := Lib.hid hv
    obtain ⟨rfl, g⟩ := VG.of hv
    have hg1 := g.pos
    have hg2 := g.le
    obtain ⟨hp1, hp2⟩ := g.pow
    have hp4 : 2 ^ rs.length - 1 < 2 ^ rs.length := by omega
    generalize hFull : 2 ^ rs.length - 1 = full at *
    have hp3 : wrap64 (pwN rs.length - 1) = (full : Int) := by
      rw [pwN_small _ (by omega), show ((2 ^ rs.length : Nat) : Int) - 1 = (full : Int) by omega]
      simp only [wrap64]
      omega
    have HhO := Lib.hid hO
    clear hO
    have Hhp4 := Lib.hid hp4
    clear hp4
    go_wp2_with (first | (go_at_call 14; refine (Calls.later m (specIsGraph_any _ _ _ _ _ (hr.later m) hrl)).mono ?_; rintro e w' ⟨rfl, m, rfl⟩))
    simp only [hp3]
    clear hp3
    go_loopw [4, 5] (fun o l wr => ∃ m : Later W2, wr = m.w ∧ ∃ (f S : Nat) (xs : List Int) (ao : Option Addr) (cap : Nat), S ≤ f ∧ S < 2 ^ rs.length ∧ xs.length + f ≤ 128 ∧ l = .int .i64 S ∧ o = .slice ao xs.length cap ∧ OwnE m.w W2.heap.size ao cap xs ∧ takeF (splB rs) rs.length full full [] = takeF (splB rs) rs.length f S xs) (fun _ l _ => (intOf l).toNat)
    case atStart => exact ⟨m, rfl, full, full, [], _, _, Nat.le_refl _, Hhp4.out, by simp; omega, rfl, rfl, HhO.out.later m, rfl⟩
    case round =>
      obtain ⟨m, rfl, f, S, xs, ao, cap, hSf, hS, hlen, rfl, rfl, hO, hV⟩ := hrel
      by_cases h0 : 0 < S
      · have d0 : decide (0 < (S : Int)) = true := decide_eq_true (by omega)
        have HW : ∀ m2 : Later m.w, ∃ m' : Later W2, m'.w = m2.w := fun m2 => ⟨m.on m2.below, rfl⟩
        have hms := m.size
        have HhO := Lib.hid hO
        clear hO
        have HhV := Lib.hid hV
        clear hV
        have HhSf := Lib.hid hSf
        clear hSf
        have Hhlen := Lib.hid hlen
        clear hlen
        have HHW := Lib.hid HW
        clear HW
        replace hr := hr.later m
        replace hc0 : m.w.cell? _ = _ := (m.cell _ _ hb0).trans hc0
        replace hc1 : m.w.cell? _ = _ := (m.cell _ _ hb0).trans hc1
        replace hb0 := Nat.lt_of_lt_of_le hb0 m.size
        replace HhB := Lib.hid (below_later HhB.out m)
        generalize m.w = W3 at *
        clear m
        obtain ⟨m, hm0⟩ : ∃ m : Later W3, m.w = W3 := ⟨Later.refl _, rfl⟩
        refine (fun h => hm0 ▸ h) ?_
        clear hm0
        go_wp2_with fail
        go_loopw [6, 7] (fun b i wr => (∃ m : Later W3, wr = m.w) ∧ ∃ (j : Nat) (bi : Int), j ≤ rs.length ∧ i = .int .i64 ((j : Int) - 1) ∧ b = .int .i64 bi ∧ DownTo (fun v => splB rs S v) rs.length j bi) (fun _ i _ => (intOf i + 1).toNat)
        case atStart => exact ⟨⟨m, rfl⟩, rs.length, -1, Nat.le_refl _, by go_num, rfl, DownTo.start _ _⟩
        case round =>
          obtain ⟨⟨m, rfl⟩, j, bi, hj, rfl, rfl, hD⟩ := hrel
          have hb1 := hD.lo
          rcases j with _ | j
          · rcases hD.leastP with ⟨rfl, hL⟩ | ⟨k, rfl, hL⟩
            · have HE2 := Lib.hid (HE.out.trans (HhV.out.trans (takeF_none HhSf.out h0 hL)))
              clear hD hL
              go_wp2_with fail
              go_ret2
              exact ⟨_, _, by rw [HE2.out]; rfl, (below_later HhB.out m).alloc (below_later HhB.out m).size _, by rw [HE2.out]; exact fun h => absurd h (by simp)⟩
            · obtain ⟨hk1, hk2, hk3, hk4⟩ := splB_left hL
              have HN := Lib.hid (HhV.out.trans (takeF_some HhSf.out h0 hL))
              have hl7 : xs.length ≤ 1048576 := by have := Hhlen.out; omega
              have hms3 := m.size
              have hq : wrap64 ((S : Int) - pwN k) = ((S - 2 ^ k : Nat) : Int) := by
                rw [pwN_small _ (by omega), show (S : Int) - ((2 ^ k : Nat) : Int) = ((S - 2 ^ k : Nat) : Int) by omega]
                simp only [wrap64]
                omega
              have hS2 : S - 2 ^ k < S := by omega
              generalize S - 2 ^ k = S2 at *
              clear hD hL hk2
              go_wp2_with (at_builtin; go_must (refine wpList_append_e rfl _ _ rfl W2.heap.size cap ao xs (k : Int) rfl (HhO.out.later m) rfl (by omega) (by omega) ?_); intro ao' cap' w1 hown1 hB1)
              go_roundw
              case rel =>
                obtain ⟨m', e⟩ := HHW.out m
                exact ⟨⟨w1, m'.below.trans (e.symm ▸ hB1)⟩, rfl, f - 1, S2, xs ++ [(k : Int)], ao', cap', by have := HhSf.out; omega, by omega, by have := Hhlen.out; have := HhSf.out; simp; omega, by rw [hq], by simp, hown1, HN.out⟩
              case measure => simp [intOf]; omega
          · have hjl : j < rs.length := by omega
            have HNo := Lib.hid (fun h => DownTo.no hD h)
            have HYes := Lib.hid (fun h => DownTo.yes (p := fun v => splB rs S v) hjl h)
            have HSpl : Hid (splB rs S j = (S.testBit j && cliqueN rs (gn rs j &&& S))) := Lib.hid rfl
            have hq : ((j + 1 : Nat) : Int) - 1 = (j : Int) := by omega
            have hq2 : IntKind.i64.wrap ((j : Int) - 1) = (j : Int) - 1 := IntKind_i64_in _ (by omega) (by omega)
            simp only [hq]
            clear hD
            cases hb : S.testBit j
            · have hb' : hasN (S : Int) j = false := by rw [hasN_nat]; exact hb
              rw [hb] at HSpl
              clear hb
              go_wp2_with fail
              go_roundw
              case rel => exact ⟨⟨m, rfl⟩, j, bi, by omega, by go_num, rfl, HNo.out HSpl.out⟩
              case measure => simp [intOf]
            · have hb' : hasN (S : Int) j = true := by rw [hasN_nat]; exact hb
              have hC := fun m : Later W3 => l6Simplicial_any rs S j ro rc m.w (hr.later m) Hhv.out hS hjl
              rw [hb, Bool.true_and] at HSpl
              clear hb
              cases hc : cliqueN rs (gn rs j &&& S)
              · rw [hc] at hC HSpl
                go_wp2_with (first | (go_at_call 167; refine (Calls.later m (hC m)).mono ?_; rintro e w' ⟨rfl, m, rfl⟩))
                go_roundw
                case rel => exact ⟨⟨m, rfl⟩, j, bi, by omega, by go_num, rfl, HNo.out HSpl.out⟩
                case measure => simp [intOf]
              · rw [hc] at hC HSpl
                go_wp2_with (first | (go_at_call 167; refine (Calls.later m (hC m)).mono ?_; rintro e w' ⟨rfl, m, rfl⟩))
                go_roundw
                case rel => exact ⟨⟨m, rfl⟩, j, (j : Int), by omega, by go_num, rfl, HYes.out HSpl.out⟩
                case measure => simp [intOf]
      · obtain rfl : S = 0 := by omega
        have HE2 := Lib.hid (HE.out.trans (hV.trans (takeF_zero f xs)))
        have hX := hO.ints
        clear hV hO
        go_wp2_with fail
        go_ret2
        exact ⟨ao, cap, by rw [HE2.out]; rfl, below_later HhB.out m, by rw [HE2.out]; exact hX⟩

set_option maxHeartbeats 1000000 in
theorem specChordal_any (n : Int) (rs : List Int) (ro : Option Addr) (rc : Nat) (w : World) (hr : IntsAt w ro rs) (hrl : rs.length ≤ 1048576) :
    Calls Try.prog 57 #[.agg #[.int .i64 n, .slice ro rs.length rc]] w fun e w' => e = .returned (.bool (chordalB n rs)) ∧ Below w.heap.size w w' := by
  go_enter Try.func57, Try.ntmps57
  go_wp2_with fail
  generalize hW : w.alloc _ = W1
  obtain ⟨hB, -, k0⟩ := alloc1 hW
  replace hr := hr.below hB
  have hb0 := k0.lt
  have hc0 := k0.cell 0
  have hc1 := k0.cell 1
  simp at hc0 hc1
  clear hW k0
  have HhB := Lib.hid hB
  clear hB
  refine (specElim_any n rs ro rc W1 hr hrl).mono ?_
  rintro e w2 ⟨ao, cap, rfl, hB2, -⟩
  have HE : Hid (chordalB n rs = (elimV n rs).isSome) := rfl
  have hBB := below_more' HhB.out hB2
  clear hB2
  generalize elimV n rs = O at *
  have HhBB := Lib.hid hBB
  clear hBB
  go_wp2_with fail
  go_ret
  exact ⟨retB HE.out.symm, HhBB.out⟩

end Go.Proofs.Ytgklgheaojoimaa
