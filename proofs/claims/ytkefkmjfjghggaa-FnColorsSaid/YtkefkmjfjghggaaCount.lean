/-
  CountColorings of the program, and how many colorings there are. For at most 2^20 rows.
-/
import Derived.Test.YtkefkmjfjghggaaColorings
namespace Go.Proofs.Ytkefkmjfjghggaa
open Go.RowKit

/-! ### The number -/
def colCount (rs : List Int) (kc : Nat) : Nat → List Int → Nat
  | 0, _ => 1
  | f + 1, l => ((List.range kc).map fun c => if freeTo rs l c l.length = true then colCount rs kc f (l ++ [(c : Int)]) else 0).sum
/-- The part of the sum below color j. -/
def colSum (rs : List Int) (kc f : Nat) (l : List Int) (j : Nat) : Nat := ((List.range j).map fun c => if freeTo rs l c l.length = true then colCount rs kc f (l ++ [(c : Int)]) else 0).sum
theorem colSum_zero (rs : List Int) (kc f : Nat) (l : List Int) : colSum rs kc f l 0 = 0 := rfl
theorem colSum_no {rs : List Int} {kc f : Nat} {l : List Int} {j : Nat} (h : freeTo rs l j l.length = false) : colSum rs kc f l (j + 1) = colSum rs kc f l j := by
  unfold colSum; rw [List.range_succ, List.map_append, List.sum_append]; simp [h]
theorem colSum_yes {rs : List Int} {kc f : Nat} {l : List Int} {j : Nat} (h : freeTo rs l j l.length = true) : colSum rs kc f l (j + 1) = colSum rs kc f l j + colCount rs kc f (l ++ [(j : Int)]) := by
  unfold colSum; rw [List.range_succ, List.map_append, List.sum_append]; simp [h]
theorem colCount_succ (rs : List Int) (kc f : Nat) (l : List Int) : colCount rs kc (f + 1) l = colSum rs kc f l kc := rfl
theorem colCount_le (rs : List Int) {kc : Nat} (hk : kc ≤ 4) : ∀ f l, colCount rs kc f l ≤ 4 ^ f
  | 0, _ => Nat.le_refl _
  | f + 1, l => by
    have h : ∀ j, colSum rs kc f l j ≤ j * 4 ^ f := by
      intro j
      induction j with
      | zero => simp [colSum]
      | succ j ih =>
        rw [Nat.succ_mul]
        cases hf : freeTo rs l j l.length
        · rw [colSum_no hf]; exact Nat.le_trans ih (Nat.le_add_right _ _)
        · rw [colSum_yes hf]; exact Nat.add_le_add ih (colCount_le rs hk f _)
    rw [colCount_succ, Nat.pow_succ, Nat.mul_comm]
    exact Nat.le_trans (h kc) (Nat.mul_le_mul_right _ hk)
theorem colSum_le (rs : List Int) {kc : Nat} (hk : kc ≤ 4) (f : Nat) (l : List Int) : ∀ j, colSum rs kc f l j ≤ j * 4 ^ f
  | 0 => by simp [colSum]
  | j + 1 => by
    rw [Nat.succ_mul]
    have ih := colSum_le rs hk f l j
    cases hf : freeTo rs l j l.length
    · rw [colSum_no hf]; exact Nat.le_trans ih (Nat.le_add_right _ _)
    · rw [colSum_yes hf]; exact Nat.add_le_add ih (colCount_le rs hk f _)
/-- What CountColorings says. -/
def countV (n : Int) (rs : List Int) (k : Int) : Int := if isGraphB n rs = true ∧ (decide (0 ≤ k) && decide (k ≤ 4)) = true then colCount rs k.toNat rs.length [] else -1
theorem countV_no {n : Int} {rs : List Int} {k : Int} (h : isGraphB n rs = false) : countV n rs k = -1 := by unfold countV; rw [if_neg]; rintro ⟨a, -⟩; rw [h] at a; cases a
theorem countV_out {n : Int} {rs : List Int} {k : Int} (h : (decide (0 ≤ k) && decide (k ≤ 4)) = false) : countV n rs k = -1 := by unfold countV; rw [if_neg]; rintro ⟨-, a⟩; rw [h] at a; cases a
theorem countV_of {n : Int} {rs : List Int} {k : Nat} (h : isGraphB n rs = true) (h1 : (decide (0 ≤ (k : Int)) && decide ((k : Int) ≤ 4)) = true) : countV n rs k = colCount rs k rs.length [] := by unfold countV; rw [if_pos ⟨h, h1⟩]; rfl

/-- The visitor that counts. -/
def countS (s : Int) (_ : List Int) : Int × Bool := (wrap64 (s + 1), true)
theorem countRun (rs : List Int) (kc : Nat) : ∀ f (l : List Int) (s : Int), 0 ≤ s → s + colCount rs kc f l ≤ 9223372036854775807 → colRun countS rs kc f s l = (s + colCount rs kc f l, true)
  | 0, l, s, h0, h1 => by
    have : colCount rs kc 0 l = 1 := rfl
    rw [this] at h1 ⊢
    show (wrap64 (s + 1), true) = _
    rw [IntWalk.wrap64_in _ ⟨by omega, by omega⟩]; rfl
  | f + 1, l, s, h0, h1 => by
    have h : ∀ j, j ≤ kc → s + colSum rs kc f l j ≤ 9223372036854775807 → preB (fun c s => if freeTo rs l c l.length = true then colRun countS rs kc f s (l ++ [(c : Int)]) else (s, true)) s j = (s + colSum rs kc f l j, true) := by
      intro j
      induction j with
      | zero => intro _ _; rw [colSum_zero]; simp [preB]
      | succ j ih =>
        intro hj hle
        cases hf : freeTo rs l j l.length
        · rw [colSum_no hf] at hle ⊢
          rw [preB_go (ih (by omega) hle), hf]; rfl
        · rw [colSum_yes hf] at hle ⊢
          rw [preB_go (ih (by omega) (by omega)), hf, if_pos rfl, countRun rs kc f _ _ (by omega) (by omega)]
          simp [Int.add_assoc]
    rw [colCount_succ] at h1 ⊢
    exact h kc (Nat.le_refl _) h1

set_option maxRecDepth 100000 in
theorem countVisit (bv N : Nat) : VisitOf 76 countS (fun s => .int .i64 s) (fun _ _ => True) 3 bv N := by
  intro s l ao cap w hb hl hN hne hc
  have z1 := hb.cell 0
  have z2 := hb.frozen 0
  simp at z1
  have hlt := hb.lt
  have Hhb := Lib.hid hb
  clear hb
  go_enter Try.func76, Try.ntmps76
  go_wp2_with fail
  go_ret
  refine ⟨rfl, (Only.refl (fun b => b = bv) _ _).setCell (p := ⟨bv, 0, none⟩) (.inl rfl) _, fun _ => ?_⟩
  have := Hhb.out.store 0 (.int .i64 (wrap64 (s + 1)))
  simpa [countS] using this

set_option maxRecDepth 100000 in
set_option maxHeartbeats 1000000 in
theorem implCount'_any (n : Int) (rs : List Int) (k : Int) (ro : Option Addr) (rc : Nat) (w : World) (hr : IntsAt w ro rs) (hrl : rs.length ≤ 1048576) :
    Calls Try.prog 13 #[.agg #[.int .i64 n, .slice ro rs.length rc], .int .i64 k] w fun e w' => e = .returned (.int .i64 (countV n rs k)) ∧ Below w.heap.size w w' := by
  go_enter Try.func13, Try.ntmps13
  go_wp2_with fail
  generalize hW : w.alloc _ = W1
  obtain ⟨hB, -, k0⟩ := alloc1 hW
  replace hr := hr.below hB
  have hb0 := k0.lt
  have hc0 := k0.cell 0
  have hc1 := k0.cell 1
  simp at hc0 hc1
  clear hW k0
  have HhB := Lib.hid hB
  clear hB
  obtain ⟨m, hm0⟩ : ∃ m : Later W1, m.w = W1 := ⟨Later.refl _, rfl⟩
  refine (fun h => hm0 ▸ h) ?_
  clear hm0
  cases hv : isGraphB n rs
  · have HE := Lib.hid (countV_no (k := k) hv)
    go_wp2_with (first | (go_at_call 72; refine (Calls.later m (implIsGraph_any _ _ _ _ _ (hr.later m) hrl)).mono ?_; rintro e w' ⟨rfl, m, rfl⟩))
    go_ret
    exact ⟨retI (by rw [HE.out]), below_later HhB.out m⟩
  cases hw : (decide (0 ≤ k) && decide (k ≤ 4))
  · have HE := Lib.hid (countV_out (n := n) (rs := rs) hw)
    go_wp2_with (first | (go_at_call 72; refine (Calls.later m (implIsGraph_any _ _ _ _ _ (hr.later m) hrl)).mono ?_; rintro e w' ⟨rfl, m, rfl⟩) | (go_at_call 71; refine (within_any _ _ _ _).mono ?_; rintro e w' ⟨rfl, rfl⟩))
    go_ret
    exact ⟨retI (by rw [HE.out]), below_later HhB.out m⟩
  · obtain ⟨rfl, g⟩ := VG.of hv
    have hw' := hw
    simp only [Bool.and_eq_true, decide_eq_true_eq] at hw'
    obtain ⟨k, rfl⟩ : ∃ k' : Nat, k = k' := ⟨k.toNat, by omega⟩
    have hk : k ≤ 4 := by omega
    clear hw'
    have HE := Lib.hid (countV_of hv hw)
    have hk4 : decide ((k : Int) ≤ 4) = true := decide_eq_true (by omega)
    go_wp2_with (first | (go_at_call 72; refine (Calls.later m (implIsGraph_any _ _ _ _ _ (hr.later m) hrl)).mono ?_; rintro e w' ⟨rfl, m, rfl⟩; have hbm := Nat.lt_of_lt_of_le hb0 m.size) | (go_at_call 71; refine (within_any _ _ _ _).mono ?_; rintro e w' ⟨rfl, rfl⟩))
    generalize hW2 : m.w.alloc (.cells #[.int .i64 0] 3) = W2
    obtain ⟨hB2, -, k2⟩ := alloc1 hW2
    have hl2 := k2.lt
    refine (colorings_any countS (fun s => .int .i64 s) (fun _ _ => True) 3 rs ro rc k 76 m.w.heap.size 0 m.w W2 g (by omega) hB2 (hr.later m) (Nat.le_refl _) k2 (fun _ _ => rfl) (countVisit _ _)).mono ?_
    have hcb := colCount_le rs hk rs.length []
    have hN := g.le
    have hp4 : 4 ^ rs.length ≤ 4 ^ 7 := Nat.pow_le_pow_right (by decide) hN
    have e := countRun rs k rs.length [] 0 (by omega) (by omega)
    rw [e]
    rintro e w' ⟨rfl, hO, h1, -⟩
    have k3 := h1 rfl
    have z1 := k3.cell 0
    simp at z1
    have hB3 : Below w.heap.size w w' := (below_later HhB.out m).trans ((hB2.mono (Nat.le_of_lt hbm)).trans (hO.below (Nat.le_trans (Nat.le_of_lt hbm) hB2.size) (fun b hb h => by omega)))
    have HhO := Lib.hid hO
    clear hO
    have HhB3 := Lib.hid hB3
    clear hB3
    clear h1 hcb hp4 hN
    go_wp2_with fail
    go_ret
    exact ⟨retI (by rw [HE.out]), HhB3.out⟩

end Go.Proofs.Ytkefkmjfjghggaa
