/-
  The walks of l3Grow, PartsOf of the reference and of partOf, parts, PartsOf of the program. The graph is right, the set is one of it.
-/
import Derived.Test.YtdbaflimcbidjaaParts
import Derived.Test.YtdbaflimcbidjaaMark
namespace Go.Proofs.Ytdbaflimcbidjaa
open Go.RowKit

set_option maxHeartbeats 1000000 in
theorem l3Grow_any (rs : List Int) (X S : Nat) (ro : Option Addr) (rc : Nat) (w : World) (hr : IntsAt w ro rs) (hv : isGraphB rs.length rs = true) (hS : S < 2 ^ rs.length) (hX : subN X S) :
    Calls Try.prog 84 #[.agg #[.int .i64 rs.length, .slice ro rs.length rc], .int .i64 X, .int .i64 S] w fun e w' => e = .returned (.int .i64 (grow rs X S)) ∧ Below w.heap.size w w' := by
  have g := (VG.of hv).2
  have hg1 := g.pos
  have hg2 := g.le
  have hp := g.pow.1
  go_enter Try.func84, Try.ntmps84
  go_wp2_with fail
  generalize hW : w.alloc _ = W1
  obtain ⟨hB, -, k0⟩ := alloc1 hW
  replace hr := hr.below hB
  have hb0 := k0.lt
  have hc0 := k0.cell 0
  have hc1 := k0.cell 1
  simp at hc0 hc1
  clear hW k0
  have HhB := Lib.hid hB
  clear hB
  go_loopw [7, 8] (fun o i wr => (∃ m : Later W1, wr = m.w) ∧ ∃ k : Nat, k ≤ rs.length ∧ i = .int .i64 k ∧ o = .int .i64 (stepN rs S X k : Nat)) (fun _ i _ => rs.length - (intOf i).toNat)
  case atStart => exact ⟨⟨Later.refl _, rfl⟩, 0, by omega, rfl, rfl⟩
  case round =>
    obtain ⟨⟨m, rfl⟩, k, hk, rfl, rfl⟩ := hrel
    have hA : stepN rs S X k < 2 ^ rs.length := (stepN_sub hX k).lt hS
    by_cases hlt : k < rs.length
    · have hN : Hid (stepN rs S X (k + 1) = around rs (stepN rs S X k) &&& S) := rfl
      generalize stepN rs S X k = A at *
      have hq := around_lt g hA
      have ho := bits_and_nat (around rs A) S (by omega) (by omega)
      have hC := fun m : Later W1 => specAround_any rs A ro rc m.w (hr.later m) hv hA
      generalize around rs A = B at *
      go_wp2_with (first | (go_at_call 83; refine (Calls.later m (hC _)).mono ?_; rintro e w' ⟨rfl, m, rfl⟩))
      go_roundw
      case rel => exact ⟨⟨m, rfl⟩, k + 1, by omega, by go_num, by rw [hN.out]⟩
      case measure => simp [intOf]; omega
    · go_wp2_with fail
      go_ret
      obtain rfl : k = rs.length := by omega
      exact ⟨rfl, below_later HhB.out m⟩

theorem low_bit_fin : ∀ s : Fin 128, s.val ≠ 0 → bits .and .i64 (s.val : Int) (-(s.val : Int)) = ((2 ^ low s.val : Nat) : Int) := by decide +kernel
theorem low_bit {S : Nat} (hS : S < 128) (h0 : S ≠ 0) : bits .and .i64 (S : Int) (-(S : Int)) = ((2 ^ low S : Nat) : Int) := low_bit_fin ⟨S, hS⟩ h0


def ints (l : List Nat) : List Int := l.map Int.ofNat
theorem ints_len (l : List Nat) : (ints l).length = l.length := by simp [ints]
theorem ints_snoc (l : List Nat) (v : Nat) : ints (l ++ [v]) = ints l ++ [(v : Int)] := by simp [ints]

/-- What a call says that hands back a list of its own. -/
def RetE (w : World) (xs : List Int) (e : Ending) (w' : World) : Prop := ∃ ao cap, e = .returned (.slice ao xs.length cap) ∧ Below w.heap.size w w' ∧ OwnE w' w.heap.size ao cap xs



end Go.Proofs.Ytdbaflimcbidjaa
