/-
  least of the program, for whatever function. For at most 2^20 rows.
-/
import Derived.Test.YtepbhgapjogkjaaBest
namespace Go.Proofs.Ytepbhgapjogkjaa
open Go.RowKit

/-- The least set for which something holds. -/
def leastO (n : Int) (rs : List Int) (p : Nat → Bool) : Option Nat := if isGraphB n rs = true then firstB p (2 ^ rs.length) else none
def leastI (o : Option Nat) : Int := match o with | some k => k | none => 0
theorem leastO_no {n : Int} {rs : List Int} {p : Nat → Bool} (h : isGraphB n rs = false) : leastO n rs p = none := by unfold leastO; rw [if_neg (by rw [h]; decide)]
theorem leastO_of {n : Int} {rs : List Int} {p : Nat → Bool} (h : isGraphB n rs = true) : leastO n rs p = firstB p (2 ^ rs.length) := by unfold leastO; rw [if_pos h]
theorem leastO_congr {n : Int} {rs : List Int} {p q : Nat → Bool} (h : isGraphB n rs = true → ∀ S, S < 2 ^ rs.length → p S = q S) : leastO n rs p = leastO n rs q := by
  unfold leastO
  split
  · rename_i hv
    unfold firstB
    have key : ∀ l : List Nat, (∀ x, x ∈ l → x < 2 ^ rs.length) → l.find? p = l.find? q := by
      intro l
      induction l with
      | nil => simp
      | cons a l ih =>
        intro hl
        rw [List.find?_cons, List.find?_cons, h hv a (hl a (by simp)), ih (fun x hx => hl x (by simp [hx]))]
    exact key _ (fun x hx => by simpa using hx)
  · rfl

set_option maxRecDepth 100000 in
set_option maxHeartbeats 1000000 in
theorem implLeast_any (n : Int) (rs : List Int) (ro : Option Addr) (rc K : Nat) (p : Nat → Bool) (w : World) (hr : IntsAt w ro rs) (hrl : rs.length ≤ 1048576) (hE : ∀ args w, Sem.run Try.prog (callFunc K args) w = .ok (.enter K args) w) (hK : isGraphB rs.length rs = true → TestOf K rs ro rc p) :
    Calls Try.prog 81 #[.agg #[.int .i64 n, .slice ro rs.length rc], .func (.func K) #[] #[]] w fun e w' => e = .returned (.tuple #[.int .i64 (leastI (leastO n rs p)), .bool (leastO n rs p).isSome]) ∧ Below w.heap.size w w' := by
  go_enter Try.func81, Try.ntmps81
  go_wp2_with fail
  generalize hW : w.alloc _ = W1
  obtain ⟨hB, -, k0⟩ := alloc1 hW
  replace hr := hr.below hB
  have hb0 := k0.lt
  have hc0 := k0.cell 0
  have hc1 := k0.cell 1
  simp at hc0 hc1
  clear hW k0
  have HhB := Lib.hid hB
  clear hB
  obtain ⟨m, hm0⟩ : ∃ m : Later W1, m.w = W1 := ⟨Later.refl _, rfl⟩
  refine (fun h => hm0 ▸ h) ?_
  clear hm0
  cases hv : isGraphB n rs
  · have HE := Lib.hid (leastO_no (p := p) hv)
    go_wp2_with (first | (go_at_call 77; refine (Calls.later m (implIsGraph_any _ _ _ _ _ (hr.later m) hrl)).mono ?_; rintro e w' ⟨rfl, m, rfl⟩))
    go_ret2
    exact ⟨by rw [HE.out]; rfl, below_later HhB.out m⟩
  · obtain ⟨rfl, g⟩ := VG.of hv
    replace hK := Lib.hid (hK hv)
    have hg2 := g.le
    obtain ⟨hp1, hp2⟩ := g.pow
    have HE := Lib.hid (leastO_of (p := p) hv)
    have hAll := fun m : Later W1 => implAll_any rs.length (.slice ro rs.length rc) hg2 m.w
    have HT : Hid (2 ^ rs.length = 2 ^ rs.length - 1 + 1) := by show _ = _; omega
    have HS : Hid (∀ S, S < 2 ^ rs.length - 1 + 1 → S < 2 ^ rs.length) := fun S h => by omega
    generalize hT : 2 ^ rs.length - 1 = T at *
    have hT1 : 1 ≤ T := by omega
    have hT2 : T ≤ 127 := by omega
    replace HE := Lib.hid (HE.out.trans (congrArg (fun x => firstB p x) HT.out))
    clear hT hp1 hp2
    go_wp2_with (first | (go_at_call 77; refine (Calls.later m (implIsGraph_any _ _ _ _ _ (hr.later m) hrl)).mono ?_; rintro e w' ⟨rfl, m, rfl⟩) | (go_at_call 63; refine (Calls.later m (hAll m)).mono ?_; rintro e w' ⟨rfl, m, rfl⟩))
    go_loopw [13] (fun i wr => (∃ m : Later W1, wr = m.w) ∧ ∃ k : Nat, k ≤ T + 1 ∧ i = .int .i64 k ∧ ∀ j, j < k → p j = false) (fun i _ => T + 1 - (intOf i).toNat)
    case atStart => exact ⟨⟨m, rfl⟩, 0, by omega, rfl, fun j h => by omega⟩
    case round =>
      obtain ⟨⟨m, rfl⟩, k, hk, rfl, hP⟩ := hrel
      have HhP := Lib.hid hP
      clear hP
      by_cases hlt : k < T + 1
      · have hK' := fun m : Later W1 => hK.out k m.w (hr.later m) (HS.out k (by omega))
        cases hp : p k <;> simp only [hp] at hK'
        · have HY := Lib.hid (all_succ (p := fun j => p j = false) HhP.out hp)
          go_wp2_with fail
          refine (Calls.later m (hK' m)).mono ?_
          rintro e w' ⟨rfl, m, rfl⟩
          go_wp2_with fail
          go_roundw
          case rel => exact ⟨⟨m, rfl⟩, k + 1, by omega, by go_num, HY.out⟩
          case measure => simp [intOf]; omega
        · have HJ := Lib.hid (firstB_hit hlt HhP.out hp)
          go_wp2_with fail
          refine (Calls.later m (hK' m)).mono ?_
          rintro e w' ⟨rfl, m, rfl⟩
          go_wp2_with fail
          go_ret2
          exact ⟨by rw [HE.out, HJ.out]; rfl, below_later HhB.out m⟩
      · have HJ := Lib.hid (firstB_none (p := p) (n := T + 1) (fun j h => HhP.out j (by omega)))
        go_wp2_with fail
        go_ret2
        exact ⟨by rw [HE.out, HJ.out]; rfl, below_later HhB.out m⟩

end Go.Proofs.Ytepbhgapjogkjaa
