/-
  FormatInt of both sides at numbers from 0 to 99. No further conditions.
-/
import Derived.Test.YtfkehmpckhmkbaaDoorPkCardArcs02
import Derived.Laws.IdiomStrings
namespace Go.Proofs.YtfkehmpckhmkbaaDoor
open Go.RowKit

def digB (k : Nat) : UInt8 := UInt8.ofNat (48 + k)
/-- A number below 100 as text. -/
def numS (k : Nat) : ByteArray := if k < 10 then ⟨#[digB k]⟩ else ⟨#[digB (k / 10), digB (k % 10)]⟩

def digitsS : ByteArray := ⟨#[48, 49, 50, 51, 52, 53, 54, 55, 56, 57, 97, 98, 99, 100, 101, 102, 103, 104, 105, 106, 107, 108, 109, 110, 111, 112, 113, 114, 115, 116, 117, 118, 119, 120, 121, 122]⟩
def pairsS : ByteArray := ⟨#[48, 48, 48, 49, 48, 50, 48, 51, 48, 52, 48, 53, 48, 54, 48, 55, 48, 56, 48, 57, 49, 48, 49, 49, 49, 50, 49, 51, 49, 52, 49, 53, 49, 54, 49, 55, 49, 56, 49, 57, 50, 48, 50, 49, 50, 50, 50, 51, 50, 52, 50, 53, 50, 54, 50, 55, 50, 56, 50, 57, 51, 48, 51, 49, 51, 50, 51, 51, 51, 52, 51, 53, 51, 54, 51, 55, 51, 56, 51, 57, 52, 48, 52, 49, 52, 50, 52, 51, 52, 52, 52, 53, 52, 54, 52, 55, 52, 56, 52, 57, 53, 48, 53, 49, 53, 50, 53, 51, 53, 52, 53, 53, 53, 54, 53, 55, 53, 56, 53, 57, 54, 48, 54, 49, 54, 50, 54, 51, 54, 52, 54, 53, 54, 54, 54, 55, 54, 56, 54, 57, 55, 48, 55, 49, 55, 50, 55, 51, 55, 52, 55, 53, 55, 54, 55, 55, 55, 56, 55, 57, 56, 48, 56, 49, 56, 50, 56, 51, 56, 52, 56, 53, 56, 54, 56, 55, 56, 56, 56, 57, 57, 48, 57, 49, 57, 50, 57, 51, 57, 52, 57, 53, 57, 54, 57, 55, 57, 56, 57, 57]⟩
theorem pairs_fin : ∀ k : Fin 100, 10 ≤ k.val → pairsS.extract (k.val * 2) (k.val * 2 + 2) = numS k.val := by decide +kernel
theorem digits_fin : ∀ k : Fin 10, digitsS.extract k.val (k.val + 1) = numS k.val := by decide +kernel

set_option maxRecDepth 100000 in
set_option maxHeartbeats 1000000 in
theorem small_any (k : Nat) (hk : k < 100) (w : World) : Calls Tryd.prog 57 #[.int .i64 k] w fun e w' => e = .returned (.string (numS k)) ∧ w = w' := by
  by_cases h : k < 10
  · have hD := digits_fin ⟨k, h⟩
    have HhD := Lib.hid hD
    clear hD
    go_enter Tryd.func57, Tryd.ntmps57
    go_wp2_with fail
    go_ret
    exact ⟨congrArg (fun s => Ending.returned (.string s)) HhD.out, rfl⟩
  · have hD := pairs_fin ⟨k, hk⟩ (by show 10 ≤ k; omega)
    have HhD := Lib.hid hD
    clear hD
    go_enter Tryd.func57, Tryd.ntmps57
    go_wp2_with fail
    go_ret
    exact ⟨congrArg (fun s => Ending.returned (.string s)) HhD.out, rfl⟩

theorem itoa_any (k : Nat) (hk : k < 100) (w : World) : Calls Tryd.prog 35 #[.int .i64 k] w fun e w' => e = .returned (.string (numS k)) ∧ w = w' := by
  have hS := fun w => small_any k hk w
  have h1 : ∀ w, Calls Tryd.prog 56 #[.int .i64 k, .int .i64 10] w fun e w' => e = .returned (.string (numS k)) ∧ w = w' := fun w => by
    go_enter Tryd.func56, Tryd.ntmps56
    go_wp2_with (first | (go_at_call 57; refine (hS _).mono ?_; rintro e w' ⟨rfl, rfl⟩))
    go_ret
    exact ⟨rfl, rfl⟩
  have h2 : ∀ w, Calls Tryd.prog 55 #[.int .i64 k] w fun e w' => e = .returned (.string (numS k)) ∧ w = w' := fun w => by
    go_enter Tryd.func55, Tryd.ntmps55
    go_wp2_with (first | (go_at_call 56; refine (h1 _).mono ?_; rintro e w' ⟨rfl, rfl⟩))
    go_ret
    exact ⟨rfl, rfl⟩
  have h3 : ∀ w, Calls Tryd.prog 49 #[.int .i64 k] w fun e w' => e = .returned (.string (numS k)) ∧ w = w' := fun w => by
    go_enter Tryd.func49, Tryd.ntmps49
    go_wp2_with (first | (go_at_call 55; refine (h2 _).mono ?_; rintro e w' ⟨rfl, rfl⟩))
    go_ret
    exact ⟨rfl, rfl⟩
  clear h1 h2 hS
  go_enter Tryd.func35, Tryd.ntmps35
  go_wp2_with (first | (go_at_call 49; refine (h3 _).mono ?_; rintro e w' ⟨rfl, rfl⟩))
  go_ret
  exact ⟨rfl, rfl⟩

theorem digB_fin : ∀ d : Fin 10, ((digB d.val).toNat : Int) = 48 + (d.val : Int) := by decide +kernel
/-- string([]byte{byte('0' + d)}). -/
theorem run_digit (d : Nat) (hd : d < 10) (x : Int) (hx : x = 48 + (d : Int)) (w : World) :
    Sem.run Tryd.prog (convert 22 9 (.slice (some ⟨w.heap.size, 0, none⟩) 1 1)) (w.alloc (.cells #[.int .u8 x] 5)) = .ok (.string ⟨#[digB d]⟩) (w.alloc (.cells #[.int .u8 x] 5)) := by
  have h := run_convert_bytes_back (P := Tryd.prog) (w.alloc (.cells #[.int .u8 x] 5)) 22 9 5 ⟨w.heap.size, 0, none⟩ 1 [digB d] Tryd.underlying22 Tryd.underlying5 Tryd.underlying9 (fun j hj => by
    obtain rfl : j = 0 := by simp at hj; exact hj
    have := digB_fin ⟨d, hd⟩
    dsimp only at this
    rw [List.getElem_cons_zero, this, ← hx]
    obtain ⟨-, -, h3, -⟩ := box_facts (w := w) (cs := #[.int .u8 x]) (T := 5) rfl
    simp [Addr.add, h3])
  exact h

theorem app_data (a b : Array UInt8) : (⟨a⟩ : ByteArray) ++ (⟨b⟩ : ByteArray) = ⟨a ++ b⟩ := ByteArray.ext (by simp [ByteArray.data_append])
/-- The digits that have been written, the rest n. -/
def FmtAt (k : Nat) (n : Int) (s : ByteArray) : Prop := (n = k ∧ s = ⟨#[]⟩) ∨ (10 ≤ k ∧ n = (k / 10 : Nat) ∧ s = ⟨#[digB (k % 10)]⟩) ∨ (n = 0 ∧ s = numS k)

set_option maxRecDepth 100000 in
set_option maxHeartbeats 1000000 in
theorem fmt_any (k : Nat) (hk : k < 100) (w : World) : Calls Tryd.prog 36 #[.int .i64 k] w fun e w' => e = .returned (.string (numS k)) ∧ Below w.heap.size w w' := by
  by_cases h0 : k = 0
  · subst h0
    go_enter Tryd.func36, Tryd.ntmps36
    go_wp2_with fail
    go_ret
    exact ⟨rfl, Below.refl _ _⟩
  · have hne : ((k : Int) == 0) = false := by simpa using h0
    have hne2 : ((k : Int) != 0) = true := by simpa using h0
    go_enter Tryd.func36, Tryd.ntmps36
    go_wp2_with fail
    go_loopw [0, 3] (fun n s wr => (∃ m : Later w, wr = m.w) ∧ ∃ (x : Int) (t : ByteArray), n = .int .i64 x ∧ s = .string t ∧ FmtAt k x t) (fun n _ _ => (intOf n).toNat)
    case atStart => exact ⟨⟨Later.refl _, rfl⟩, k, ⟨#[]⟩, rfl, rfl, .inl ⟨rfl, rfl⟩⟩
    case round =>
      obtain ⟨⟨m, rfl⟩, x, t, rfl, rfl, hF⟩ := hrel
      rcases hF with ⟨rfl, rfl⟩ | ⟨h10, rfl, rfl⟩ | ⟨rfl, rfl⟩
      · have hcv := fun w => run_digit (k % 10) (Nat.mod_lt _ (by omega)) (48 + (k : Int) % 10) (by omega) w
        go_wp2_with fail
        go_roundw
        case rel =>
          refine ⟨⟨m.on ((Below.refl _ _).alloc (Nat.le_refl _) _), rfl⟩, _, _, rfl, rfl, ?_⟩
          rw [app_data]
          by_cases h : k < 10
          · refine .inr (.inr ⟨by omega, ?_⟩)
            unfold numS
            rw [if_pos h, Nat.mod_eq_of_lt h]; rfl
          · exact .inr (.inl ⟨by omega, by omega, rfl⟩)
        case measure => simp [intOf]; omega
      · have hcv := fun w => run_digit (k / 10) (by omega) (48 + ((k / 10 : Nat) : Int)) rfl w
        have hmod : (((k / 10 : Nat) : Int)) % 10 = ((k / 10 : Nat) : Int) := by omega
        have hq : ((k / 10 : Nat) : Int) / 10 = 0 := by omega
        have hp : 0 < ((k / 10 : Nat) : Int) := by omega
        obtain ⟨d, hd⟩ : ∃ d, d = k / 10 := ⟨_, rfl⟩
        rw [← hd] at hcv hmod hq hp ⊢
        have hd1 : d < 10 := by omega
        have Hhd := Lib.hid hd
        clear hd
        have hpne : ((d : Int) != 0) = true := by rw [bne_iff_ne]; omega
        go_wp2_with fail
        go_roundw
        case rel =>
          refine ⟨⟨m.on ((Below.refl _ _).alloc (Nat.le_refl _) _), rfl⟩, _, _, rfl, rfl, .inr (.inr ⟨by omega, ?_⟩)⟩
          rw [app_data]
          unfold numS
          rw [if_neg (by omega), ← Hhd.out]; rfl
        case measure => simp [intOf]; omega
      · go_wp2_with fail
        go_ret
        exact ⟨rfl, m.below⟩

end Go.Proofs.YtfkehmpckhmkbaaDoor
