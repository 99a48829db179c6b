/-
  What FormatPrunes returns: a word for each prune, blanks between them. Plain: no conditions.
-/
import Derived.Test.YtgklgheaojoimaaDoorFmtN
namespace Go.Proofs.YtgklgheaojoimaaDoor
open Go.RowKit

def prOk (l : List Int) (k : Nat) : Bool := (decide (0 ≤ gi l (k * 3)) && decide (gi l (k * 3) ≤ 6)) && ((decide (0 ≤ gi l (k * 3 + 1)) && decide (gi l (k * 3 + 1) ≤ 3)) && (decide (-1 ≤ gi l (k * 3 + 2)) && decide (gi l (k * 3 + 2) ≤ 6)))
/-- The mark of a kind. -/
def kindS (k : Nat) : ByteArray := (⟨#[46, 45, 61, 35]⟩ : ByteArray).extract k (k + 1)
def wordS (l : List Int) (k : Nat) : ByteArray := (numS (gi l (k * 3)).toNat ++ kindS (gi l (k * 3 + 1)).toNat) ++ (if gi l (k * 3 + 2) = -1 then ⟨#[]⟩ else numS (gi l (k * 3 + 2)).toNat)
def prStr (l : List Int) : Nat → ByteArray
  | 0 => ⟨#[]⟩
  | k + 1 => (if k = 0 then prStr l k else prStr l k ++ ⟨#[32]⟩) ++ wordS l k
def fmtOk (l : List Int) (K : Nat) : Bool := decide (K ≤ 7) && decide (∀ k, k < K → prOk l k = true)
def fmtPr (l : List Int) (K : Nat) : ByteArray := if fmtOk l K = true then prStr l K else ⟨#[]⟩
theorem fmtPr_long {l : List Int} {K : Nat} (h : ¬K ≤ 7) : fmtPr l K = ⟨#[]⟩ := by unfold fmtPr fmtOk; rw [decide_eq_false h]; rfl
theorem fmtPr_bad {l : List Int} {K k : Nat} (hk : k < K) (h : prOk l k = false) : fmtPr l K = ⟨#[]⟩ := by
  unfold fmtPr fmtOk
  rw [if_neg]
  rw [Bool.and_eq_true, decide_eq_true_eq, decide_eq_true_eq]
  rintro ⟨-, h2⟩
  rw [h2 k hk] at h; cases h
theorem fmtPr_of {l : List Int} {K : Nat} (h7 : K ≤ 7) (h : ∀ k, k < K → prOk l k = true) : fmtPr l K = prStr l K := by
  unfold fmtPr fmtOk
  rw [if_pos]
  rw [Bool.and_eq_true, decide_eq_true_eq, decide_eq_true_eq]
  exact ⟨h7, h⟩
theorem numS_size' (k : Nat) : (numS k).size ≤ 2 := by unfold numS; split <;> (show Array.size _ ≤ 2; simp)
theorem kindS_size (k : Nat) : (kindS k).size ≤ 4 := by unfold kindS; rw [ByteArray.size_extract]; show min (k + 1) 4 - k ≤ 4; omega
theorem wordS_size (l : List Int) (k : Nat) : (wordS l k).size ≤ 8 := by
  unfold wordS
  rw [ByteArray.size_append, ByteArray.size_append]
  have h1 := numS_size' (gi l (k * 3)).toNat
  have h2 := kindS_size (gi l (k * 3 + 1)).toNat
  split
  · show _ + 0 ≤ 8; omega
  · have h3 := numS_size' (gi l (k * 3 + 2)).toNat
    omega
theorem prStr_size (l : List Int) : ∀ k, (prStr l k).size ≤ 9 * k
  | 0 => Nat.le_refl _
  | k + 1 => by
    have h1 := prStr_size l k
    have h2 := wordS_size l k
    show ((if k = 0 then prStr l k else prStr l k ++ ⟨#[32]⟩) ++ wordS l k).size ≤ _
    rw [ByteArray.size_append]
    split
    · omega
    · rw [ByteArray.size_append]
      have e : (⟨#[32]⟩ : ByteArray).size = 1 := rfl
      omega
theorem kindS_at : ∀ k : Fin 4, kindS k.val = ⟨#[#[(46 : UInt8), 45, 61, 35][k.val]]⟩ := by decide +kernel

theorem app_nil (s : ByteArray) : s ++ ⟨#[]⟩ = s := ByteArray.ext (by simp [ByteArray.data_append])

end Go.Proofs.YtgklgheaojoimaaDoor
