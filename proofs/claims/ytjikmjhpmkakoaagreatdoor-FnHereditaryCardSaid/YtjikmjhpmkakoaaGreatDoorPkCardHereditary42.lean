/-
  FormatInt of both sides at numbers from 0 to 99. No further conditions.
  What FormatPrunes returns: a word for each prune, blanks between them. Plain: no conditions.
  The closure of the program's FormatPrunes, and slices.IndexFunc and slices.ContainsFunc over prunes. For at most 2^20 prunes.
  The kit's contract of strings.Join, laid at this program in plain words (by the shelf's two programs). No conditions beyond that.
-/
import Derived.Test.YtjikmjhpmkakoaaGreatDoorPkCardHereditary01
import Derived.Laws.IdiomStrings
import Derived.Test.YtjikmjhpmkakoaaGreatDoorPkCardHereditary07
import Derived.Deep.CutRange
import Derived.Shelf.Strings.OnBuilder
import Derived.Shelf.Strings.Builder1
import Derived.Shelf.Strings.Builder2
import Derived.Test.YtjikmjhpmkakoaaGreatDoorPkCardHereditary16
namespace Go.Proofs.YtjikmjhpmkakoaaGreatDoor
open Go.RowKit

def digB (k : Nat) : UInt8 := UInt8.ofNat (48 + k)
/-- A number below 100 as text. -/
def numS (k : Nat) : ByteArray := if k < 10 then ⟨#[digB k]⟩ else ⟨#[digB (k / 10), digB (k % 10)]⟩

def digitsS : ByteArray := ⟨#[48, 49, 50, 51, 52, 53, 54, 55, 56, 57, 97, 98, 99, 100, 101, 102, 103, 104, 105, 106, 107, 108, 109, 110, 111, 112, 113, 114, 115, 116, 117, 118, 119, 120, 121, 122]⟩
def pairsS : ByteArray := ⟨#[48, 48, 48, 49, 48, 50, 48, 51, 48, 52, 48, 53, 48, 54, 48, 55, 48, 56, 48, 57, 49, 48, 49, 49, 49, 50, 49, 51, 49, 52, 49, 53, 49, 54, 49, 55, 49, 56, 49, 57, 50, 48, 50, 49, 50, 50, 50, 51, 50, 52, 50, 53, 50, 54, 50, 55, 50, 56, 50, 57, 51, 48, 51, 49, 51, 50, 51, 51, 51, 52, 51, 53, 51, 54, 51, 55, 51, 56, 51, 57, 52, 48, 52, 49, 52, 50, 52, 51, 52, 52, 52, 53, 52, 54, 52, 55, 52, 56, 52, 57, 53, 48, 53, 49, 53, 50, 53, 51, 53, 52, 53, 53, 53, 54, 53, 55, 53, 56, 53, 57, 54, 48, 54, 49, 54, 50, 54, 51, 54, 52, 54, 53, 54, 54, 54, 55, 54, 56, 54, 57, 55, 48, 55, 49, 55, 50, 55, 51, 55, 52, 55, 53, 55, 54, 55, 55, 55, 56, 55, 57, 56, 48, 56, 49, 56, 50, 56, 51, 56, 52, 56, 53, 56, 54, 56, 55, 56, 56, 56, 57, 57, 48, 57, 49, 57, 50, 57, 51, 57, 52, 57, 53, 57, 54, 57, 55, 57, 56, 57, 57]⟩
theorem pairs_fin : ∀ k : Fin 100, 10 ≤ k.val → pairsS.extract (k.val * 2) (k.val * 2 + 2) = numS k.val := by decide +kernel
theorem digits_fin : ∀ k : Fin 10, digitsS.extract k.val (k.val + 1) = numS k.val := by decide +kernel

set_option maxRecDepth 100000 in
set_option maxHeartbeats 1000000 in
theorem small_any (k : Nat) (hk : k < 100) (w : World) : Calls Tryz.prog 175 #[.int .i64 k] w fun e w' => e = .returned (.string (numS k)) ∧ w = w' := by
  by_cases h : k < 10
  · have hD := digits_fin ⟨k, h⟩
    have HhD := Lib.hid hD
    clear hD
    go_enter Tryz.func175, Tryz.ntmps175
    go_wp2_with fail
    go_ret
    exact ⟨congrArg (fun s => Ending.returned (.string s)) HhD.out, rfl⟩
  · have hD := pairs_fin ⟨k, hk⟩ (by show 10 ≤ k; omega)
    have HhD := Lib.hid hD
    clear hD
    go_enter Tryz.func175, Tryz.ntmps175
    go_wp2_with fail
    go_ret
    exact ⟨congrArg (fun s => Ending.returned (.string s)) HhD.out, rfl⟩

theorem itoa_any (k : Nat) (hk : k < 100) (w : World) : Calls Tryz.prog 72 #[.int .i64 k] w fun e w' => e = .returned (.string (numS k)) ∧ w = w' := by
  have hS := fun w => small_any k hk w
  have h1 : ∀ w, Calls Tryz.prog 161 #[.int .i64 k, .int .i64 10] w fun e w' => e = .returned (.string (numS k)) ∧ w = w' := fun w => by
    go_enter Tryz.func161, Tryz.ntmps161
    go_wp2_with (first | (go_at_call 175; refine (hS _).mono ?_; rintro e w' ⟨rfl, rfl⟩))
    go_ret
    exact ⟨rfl, rfl⟩
  have h2 : ∀ w, Calls Tryz.prog 145 #[.int .i64 k] w fun e w' => e = .returned (.string (numS k)) ∧ w = w' := fun w => by
    go_enter Tryz.func145, Tryz.ntmps145
    go_wp2_with (first | (go_at_call 161; refine (h1 _).mono ?_; rintro e w' ⟨rfl, rfl⟩))
    go_ret
    exact ⟨rfl, rfl⟩
  have h3 : ∀ w, Calls Tryz.prog 118 #[.int .i64 k] w fun e w' => e = .returned (.string (numS k)) ∧ w = w' := fun w => by
    go_enter Tryz.func118, Tryz.ntmps118
    go_wp2_with (first | (go_at_call 145; refine (h2 _).mono ?_; rintro e w' ⟨rfl, rfl⟩))
    go_ret
    exact ⟨rfl, rfl⟩
  clear h1 h2 hS
  go_enter Tryz.func72, Tryz.ntmps72
  go_wp2_with (first | (go_at_call 118; refine (h3 _).mono ?_; rintro e w' ⟨rfl, rfl⟩))
  go_ret
  exact ⟨rfl, rfl⟩

theorem digB_fin : ∀ d : Fin 10, ((digB d.val).toNat : Int) = 48 + (d.val : Int) := by decide +kernel
/-- string([]byte{byte('0' + d)}). -/
theorem run_digit (d : Nat) (hd : d < 10) (x : Int) (hx : x = 48 + (d : Int)) (w : World) :
    Sem.run Tryz.prog (convert 22 9 (.slice (some ⟨w.heap.size, 0, none⟩) 1 1)) (w.alloc (.cells #[.int .u8 x] 5)) = .ok (.string ⟨#[digB d]⟩) (w.alloc (.cells #[.int .u8 x] 5)) := by
  have h := run_convert_bytes_back (P := Tryz.prog) (w.alloc (.cells #[.int .u8 x] 5)) 22 9 5 ⟨w.heap.size, 0, none⟩ 1 [digB d] Tryz.underlying22 Tryz.underlying5 Tryz.underlying9 (fun j hj => by
    obtain rfl : j = 0 := by simp at hj; exact hj
    have := digB_fin ⟨d, hd⟩
    dsimp only at this
    rw [List.getElem_cons_zero, this, ← hx]
    obtain ⟨-, -, h3, -⟩ := box_facts (w := w) (cs := #[.int .u8 x]) (T := 5) rfl
    simp [Addr.add, h3])
  exact h

theorem app_data (a b : Array UInt8) : (⟨a⟩ : ByteArray) ++ (⟨b⟩ : ByteArray) = ⟨a ++ b⟩ := ByteArray.ext (by simp [ByteArray.data_append])
/-- The digits that have been written, the rest n. -/
def FmtAt (k : Nat) (n : Int) (s : ByteArray) : Prop := (n = k ∧ s = ⟨#[]⟩) ∨ (10 ≤ k ∧ n = (k / 10 : Nat) ∧ s = ⟨#[digB (k % 10)]⟩) ∨ (n = 0 ∧ s = numS k)

set_option maxRecDepth 100000 in
set_option maxHeartbeats 1000000 in
theorem fmt_any (k : Nat) (hk : k < 100) (w : World) : Calls Tryz.prog 74 #[.int .i64 k] w fun e w' => e = .returned (.string (numS k)) ∧ Below w.heap.size w w' := by
  by_cases h0 : k = 0
  · subst h0
    go_enter Tryz.func74, Tryz.ntmps74
    go_wp2_with fail
    go_ret
    exact ⟨rfl, Below.refl _ _⟩
  · have hne : ((k : Int) == 0) = false := by simpa using h0
    have hne2 : ((k : Int) != 0) = true := by simpa using h0
    go_enter Tryz.func74, Tryz.ntmps74
    go_wp2_with fail
    go_loopw [0, 3] (fun n s wr => (∃ m : Later w, wr = m.w) ∧ ∃ (x : Int) (t : ByteArray), n = .int .i64 x ∧ s = .string t ∧ FmtAt k x t) (fun n _ _ => (intOf n).toNat)
    case atStart => exact ⟨⟨Later.refl _, rfl⟩, k, ⟨#[]⟩, rfl, rfl, .inl ⟨rfl, rfl⟩⟩
    case round =>
      obtain ⟨⟨m, rfl⟩, x, t, rfl, rfl, hF⟩ := hrel
      rcases hF with ⟨rfl, rfl⟩ | ⟨h10, rfl, rfl⟩ | ⟨rfl, rfl⟩
      · have hcv := fun w => run_digit (k % 10) (Nat.mod_lt _ (by omega)) (48 + (k : Int) % 10) (by omega) w
        go_wp2_with fail
        go_roundw
        case rel =>
          refine ⟨⟨m.on ((Below.refl _ _).alloc (Nat.le_refl _) _), rfl⟩, _, _, rfl, rfl, ?_⟩
          rw [app_data]
          by_cases h : k < 10
          · refine .inr (.inr ⟨by omega, ?_⟩)
            unfold numS
            rw [if_pos h, Nat.mod_eq_of_lt h]; rfl
          · exact .inr (.inl ⟨by omega, by omega, rfl⟩)
        case measure => simp [intOf]; omega
      · have hcv := fun w => run_digit (k / 10) (by omega) (48 + ((k / 10 : Nat) : Int)) rfl w
        have hmod : (((k / 10 : Nat) : Int)) % 10 = ((k / 10 : Nat) : Int) := by omega
        have hq : ((k / 10 : Nat) : Int) / 10 = 0 := by omega
        have hp : 0 < ((k / 10 : Nat) : Int) := by omega
        obtain ⟨d, hd⟩ : ∃ d, d = k / 10 := ⟨_, rfl⟩
        rw [← hd] at hcv hmod hq hp ⊢
        have hd1 : d < 10 := by omega
        have Hhd := Lib.hid hd
        clear hd
        have hpne : ((d : Int) != 0) = true := by rw [bne_iff_ne]; omega
        go_wp2_with fail
        go_roundw
        case rel =>
          refine ⟨⟨m.on ((Below.refl _ _).alloc (Nat.le_refl _) _), rfl⟩, _, _, rfl, rfl, .inr (.inr ⟨by omega, ?_⟩)⟩
          rw [app_data]
          unfold numS
          rw [if_neg (by omega), ← Hhd.out]; rfl
        case measure => simp [intOf]; omega
      · go_wp2_with fail
        go_ret
        exact ⟨rfl, m.below⟩

end Go.Proofs.YtjikmjhpmkakoaaGreatDoor

namespace Go.Proofs.YtjikmjhpmkakoaaGreatDoor
open Go.RowKit

def prOk (l : List Int) (k : Nat) : Bool := (decide (0 ≤ gi l (k * 3)) && decide (gi l (k * 3) ≤ 6)) && ((decide (0 ≤ gi l (k * 3 + 1)) && decide (gi l (k * 3 + 1) ≤ 3)) && (decide (-1 ≤ gi l (k * 3 + 2)) && decide (gi l (k * 3 + 2) ≤ 6)))
/-- The mark of a kind. -/
def kindS (k : Nat) : ByteArray := (⟨#[46, 45, 61, 35]⟩ : ByteArray).extract k (k + 1)
def wordS (l : List Int) (k : Nat) : ByteArray := (numS (gi l (k * 3)).toNat ++ kindS (gi l (k * 3 + 1)).toNat) ++ (if gi l (k * 3 + 2) = -1 then ⟨#[]⟩ else numS (gi l (k * 3 + 2)).toNat)
def prStr (l : List Int) : Nat → ByteArray
  | 0 => ⟨#[]⟩
  | k + 1 => (if k = 0 then prStr l k else prStr l k ++ ⟨#[32]⟩) ++ wordS l k
def fmtOk (l : List Int) (K : Nat) : Bool := decide (K ≤ 7) && decide (∀ k, k < K → prOk l k = true)
def fmtPr (l : List Int) (K : Nat) : ByteArray := if fmtOk l K = true then prStr l K else ⟨#[]⟩
theorem fmtPr_long {l : List Int} {K : Nat} (h : ¬K ≤ 7) : fmtPr l K = ⟨#[]⟩ := by unfold fmtPr fmtOk; rw [decide_eq_false h]; rfl
theorem fmtPr_bad {l : List Int} {K k : Nat} (hk : k < K) (h : prOk l k = false) : fmtPr l K = ⟨#[]⟩ := by
  unfold fmtPr fmtOk
  rw [if_neg]
  rw [Bool.and_eq_true, decide_eq_true_eq, decide_eq_true_eq]
  rintro ⟨-, h2⟩
  rw [h2 k hk] at h; cases h
theorem fmtPr_of {l : List Int} {K : Nat} (h7 : K ≤ 7) (h : ∀ k, k < K → prOk l k = true) : fmtPr l K = prStr l K := by
  unfold fmtPr fmtOk
  rw [if_pos]
  rw [Bool.and_eq_true, decide_eq_true_eq, decide_eq_true_eq]
  exact ⟨h7, h⟩
theorem numS_size' (k : Nat) : (numS k).size ≤ 2 := by unfold numS; split <;> (show Array.size _ ≤ 2; simp)
theorem kindS_size (k : Nat) : (kindS k).size ≤ 4 := by unfold kindS; rw [ByteArray.size_extract]; show min (k + 1) 4 - k ≤ 4; omega
theorem wordS_size (l : List Int) (k : Nat) : (wordS l k).size ≤ 8 := by
  unfold wordS
  rw [ByteArray.size_append, ByteArray.size_append]
  have h1 := numS_size' (gi l (k * 3)).toNat
  have h2 := kindS_size (gi l (k * 3 + 1)).toNat
  split
  · show _ + 0 ≤ 8; omega
  · have h3 := numS_size' (gi l (k * 3 + 2)).toNat
    omega
theorem prStr_size (l : List Int) : ∀ k, (prStr l k).size ≤ 9 * k
  | 0 => Nat.le_refl _
  | k + 1 => by
    have h1 := prStr_size l k
    have h2 := wordS_size l k
    show ((if k = 0 then prStr l k else prStr l k ++ ⟨#[32]⟩) ++ wordS l k).size ≤ _
    rw [ByteArray.size_append]
    split
    · omega
    · rw [ByteArray.size_append]
      have e : (⟨#[32]⟩ : ByteArray).size = 1 := rfl
      omega
theorem kindS_at : ∀ k : Fin 4, kindS k.val = ⟨#[#[(46 : UInt8), 45, 61, 35][k.val]]⟩ := by decide +kernel

theorem app_nil (s : ByteArray) : s ++ ⟨#[]⟩ = s := ByteArray.ext (by simp [ByteArray.data_append])

end Go.Proofs.YtjikmjhpmkakoaaGreatDoor

namespace Go.Proofs.YtjikmjhpmkakoaaGreatDoor
open Go.RowKit

theorem idxV_firstP {p : Nat → Bool} {n k : Nat} (hk : k < n) (h : ∀ j, j < k → p j = false) (hp : p k = true) : (k : Int) = idxV (firstB p n) := by rw [firstB_hit hk h hp]; rfl
theorem idxV_neverP {p : Nat → Bool} {n : Nat} (h : ∀ j, j < n → p j = false) : -1 = idxV (firstB p n) := by rw [firstB_none h]; rfl

theorem prBad_any (v q a : Int) (w : World) :
    Calls Tryz.prog 71 #[.agg #[.int .i64 v, .int .i64 q, .int .i64 a]] w fun e w' => e = .returned (.bool !((decide (0 ≤ v) && decide (v ≤ 6)) && ((decide (0 ≤ q) && decide (q ≤ 3)) && (decide (-1 ≤ a) && decide (a ≤ 6))))) ∧ Below w.heap.size w w' := by
  go_enter Tryz.func71, Tryz.ntmps71
  cases h1 : (decide (0 ≤ v) && decide (v ≤ 6))
  all_goals
    cases h2 : (decide (0 ≤ q) && decide (q ≤ 3))
    all_goals
      cases h3 : (decide (-1 ≤ a) && decide (a ≤ 6))
      all_goals
        go_wp2_with (first | (go_at_call 59; refine (within_any _ _ _ _).mono ?_; rintro e w' ⟨rfl, rfl⟩) | (go_at_call 59; refine (within_any _ _ _ _).mono ?_; rintro e w' ⟨rfl, rfl⟩) | (go_at_call 59; refine (within_any _ _ _ _).mono ?_; rintro e w' ⟨rfl, rfl⟩))
        go_ret
        exact ⟨rfl, (Below.refl _ _).alloc (Nat.le_refl _) _⟩

set_option maxHeartbeats 1000000 in
theorem indexFuncP_any (l : List Int) (F : Nat) (p : Nat → Bool) (ao : Option Addr) (n c : Nat) (w : World) (hx : IntsAt w ao l) (hn : l.length = n * 3) (hl : n ≤ 1048576)
    (hE : ∀ args w, Sem.run Tryz.prog (callFunc F args) w = .ok (.enter F args) w) (hK : ∀ (m : Later w) (j : Nat), j < n → Calls Tryz.prog F (#[.agg #[.int .i64 (gi l (j * 3)), .int .i64 (gi l (j * 3 + 1)), .int .i64 (gi l (j * 3 + 2))]] ++ #[]) m.w fun e w' => e = .returned (.bool (p j)) ∧ Below m.w.heap.size m.w w') :
    Calls Tryz.prog 117 #[.slice ao n c, .func (.func F) #[] #[]] w fun e w' => e = .returned (.int .i64 (idxV (firstB p n))) ∧ Below w.heap.size w w' := by
  have HhK := Lib.hid hK
  clear hK
  have Hhn := Lib.hid hn
  clear hn
  go_enter Tryz.func117, Tryz.ntmps117
  go_wp2_with fail
  go_loopw [8] (fun i wr => (∃ m : Later w, wr = m.w) ∧ ∃ k : Nat, k ≤ n ∧ i = .int .i64 k ∧ ∀ j, j < k → p j = false) (fun i _ => n - (intOf i).toNat)
  case atStart => exact ⟨⟨Later.refl _, rfl⟩, 0, by omega, rfl, fun j h => by omega⟩
  case round =>
    obtain ⟨⟨m, rfl⟩, k, hk, rfl, hP⟩ := hrel
    have HhP := Lib.hid hP
    clear hP
    by_cases hlt : k < n
    · obtain ⟨b, off, rfl, hb, hc⟩ := hx (by have := Hhn.out; omega)
      have x0 := hc (k * 3) (by have := Hhn.out; omega)
      have x1 := hc (k * 3 + 1) (by have := Hhn.out; omega)
      have x2 := hc (k * 3 + 2) (by have := Hhn.out; omega)
      rw [← Nat.add_assoc] at x1 x2
      have hKk := HhK.out m k hlt
      clear hc
      generalize gi l (k * 3) = V at *
      generalize gi l (k * 3 + 1) = Q at *
      generalize gi l (k * 3 + 2) = A at *
      have HhKk := Lib.hid hKk
      clear hKk
      go_wp2_with fail
      refine HhKk.out.mono ?_
      rintro e w2 ⟨rfl, hB2⟩
      obtain ⟨m, rfl⟩ : ∃ m2 : Later w, m2.w = w2 := ⟨m.on hB2, rfl⟩
      clear hB2
      cases he : p k
      all_goals
        go_wp2_with fail
      · go_roundw
        case rel => exact ⟨⟨m, rfl⟩, k + 1, by omega, by go_num, all_succ HhP.out he⟩
        case measure => simp [intOf]; omega
      · go_ret
        exact ⟨retI (idxV_firstP hlt HhP.out he), m.below⟩
    · go_wp2_with fail
      go_ret
      exact ⟨retI (idxV_neverP (fun j h => HhP.out j (by omega))), m.below⟩

set_option maxRecDepth 100000 in
/-- All prunes can be told. -/
theorem containsP_any (l : List Int) (ao : Option Addr) (n c : Nat) (w : World) (hx : IntsAt w ao l) (hn : l.length = n * 3) (hl : n ≤ 1048576) :
    Calls Tryz.prog 70 #[.slice ao n c, .func (.func 71) #[] #[]] w fun e w' => e = .returned (.bool !decide (∀ k, k < n → prOk l k = true)) ∧ Below w.heap.size w w' := by
  have h := indexFuncP_any l 71 (fun j => !prOk l j) ao n c w hx hn hl (fun _ _ => rfl) (fun m j _ => prBad_any _ _ _ _)
  have hv : (decide ((0 : Int) ≤ idxV (firstB (fun j => !prOk l j) n))) = !decide (∀ k, k < n → prOk l k = true) := by
    rcases hf : firstB (fun j => !prOk l j) n with _ | i
    · have h2 : ∀ k, k < n → prOk l k = true := fun k hk => by
        unfold firstB at hf
        rw [List.find?_eq_none] at hf
        have := hf k (by simpa using hk)
        simpa using this
      rw [decide_eq_true h2]; rfl
    · unfold firstB at hf
      rw [List.find?_range_eq_some] at hf
      obtain ⟨h1, h2, -⟩ := hf
      have h3 : ¬∀ k, k < n → prOk l k = true := fun h4 => by rw [h4 i (by simpa using h2)] at h1; cases h1
      rw [decide_eq_false h3]
      exact decide_eq_true (show (0 : Int) ≤ (i : Int) by omega)
  generalize idxV (firstB (fun j => !prOk l j) n) = I at *
  go_enter Tryz.func70, Tryz.ntmps70
  go_wp2_with fail
  refine h.mono ?_
  rintro e w2 ⟨rfl, hB⟩
  go_wp2_with fail
  go_ret
  exact ⟨by rw [← hv]; rfl, hB⟩

end Go.Proofs.YtjikmjhpmkakoaaGreatDoor

namespace Go.Proofs.YtjikmjhpmkakoaaGreatDoor
open Go.Shelf Go.RowKit
def laysJoin_ren : Go.Shelf.Ren := ⟨fun | 156 => 73 | 165 => 119 | 166 => 120 | 169 => 121 | 240 => 146 | 241 => 147 | 276 => 162 | 277 => 163 | n => n, fun | 31 => 77 | 9 => 9 | 3 => 3 | 4 => 4 | 0 => 0 | 20 => 20 | 72 => 112 | 76 => 116 | 70 => 110 | 37 => 22 | 75 => 115 | 127 => 131 | 164 => 142 | 5 => 5 | 80 => 118 | n => n, fun | n => n⟩
theorem laysJoin : Go.Proofs.Lays.n156 Tryz.prog laysJoin_ren := {
  mixed := by kernel_rfl
  f156 := Tryz.func73.trans (congrArg some (by kernel_rfl))
  f165 := Tryz.func119.trans (congrArg some (by kernel_rfl))
  f166 := Tryz.func120.trans (congrArg some (by kernel_rfl))
  f169 := Tryz.func121.trans (congrArg some (by kernel_rfl))
  f240 := Tryz.func146.trans (congrArg some (by kernel_rfl))
  f241 := Tryz.func147.trans (congrArg some (by kernel_rfl))
  f276 := Tryz.func162.trans (congrArg some (by kernel_rfl))
  f277 := Tryz.func163.trans (congrArg some (by kernel_rfl))
  t0 := Tryz.underlying0
  a0 := Tryz.isAgg0
  z0 := Tryz.sizeOf0
  v0 := Tryz.zeroValue0
  t3 := Tryz.underlying3
  a3 := Tryz.isAgg3
  z3 := Tryz.sizeOf3
  v3 := Tryz.zeroValue3
  t4 := Tryz.underlying4
  a4 := Tryz.isAgg4
  z4 := Tryz.sizeOf4
  v4 := Tryz.zeroValue4
  t9 := Tryz.underlying9
  a9 := Tryz.isAgg9
  z9 := Tryz.sizeOf9
  v9 := Tryz.zeroValue9
  t20 := Tryz.underlying20
  a20 := Tryz.isAgg20
  z20 := Tryz.sizeOf20
  v20 := Tryz.zeroValue20
  t31 := Tryz.underlying77
  a31 := Tryz.isAgg77
  z31 := Tryz.sizeOf77
  v31 := Tryz.zeroValue77
  t37 := Tryz.underlying22
  a37 := Tryz.isAgg22
  z37 := Tryz.sizeOf22
  v37 := Tryz.zeroValue22
  t70 := Tryz.underlying110
  a70 := Tryz.isAgg110
  z70 := Tryz.sizeOf110
  v70 := Tryz.zeroValue110
  t72 := Tryz.underlying112
  a72 := Tryz.isAgg112
  z72 := Tryz.sizeOf112
  v72 := Tryz.zeroValue112
  t75 := Tryz.underlying115
  a75 := Tryz.isAgg115
  z75 := Tryz.sizeOf115
  v75 := Tryz.zeroValue115
  t76 := Tryz.underlying116
  a76 := Tryz.isAgg116
  z76 := Tryz.sizeOf116
  v76 := Tryz.zeroValue116
  t127 := Tryz.underlying131
  a127 := Tryz.isAgg131
  z127 := Tryz.sizeOf131
  v127 := Tryz.zeroValue131
  t164 := Tryz.underlying142
  a164 := Tryz.isAgg142
  z164 := Tryz.sizeOf142
  v164 := Tryz.zeroValue142 }
theorem laysJoinX : Builder.Extra Tryz.prog laysJoin_ren := {
  sizeBuilder := by kernel_rfl
  liesBuilder := by kernel_rfl
  t5 := Tryz.underlying5
  a5 := Tryz.isAgg5
  z5 := Tryz.sizeOf5
  v5 := Tryz.zeroValue5
  infoByte := by kernel_rfl
  cellsByte := by kernel_rfl
  sizeByte := by kernel_rfl
  neB5 := by decide }
/-- strings.Join, however many elements. -/
theorem stringsJoin_any (bk o c : Nat) (xs : List ByteArray) (sep : ByteArray) (w : World) (hcells : ∀ (j : Nat) x, xs[j]? = some x → w.cell? ⟨bk, o + j, none⟩ = some (.string x)) (hbk : bk < w.heap.size) (hN : xs.length ≤ 140737488355328) (hcap : xs.length ≤ c) (hlen : (Lib.join (xs.map (·.data.toList)) sep.data.toList).length ≤ 140737488355328) :
    Calls Tryz.prog 73 #[.slice (some ⟨bk, o, none⟩) xs.length c, .string sep] w fun e w' => e = .returned (.string ⟨(Lib.join (xs.map (·.data.toList)) sep.data.toList).toArray⟩) ∧ Below w.heap.size w w' := Any.strings_Join laysJoin laysJoinX bk o c xs sep w hcells hbk hN hcap hlen

end Go.Proofs.YtjikmjhpmkakoaaGreatDoor
