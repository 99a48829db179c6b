/-
  EdgesOf of the program on a graph. For at most 7 rows.
  The walks of IsWay on both sides. For at most 2^20 rows and list elements; the program's wants that the list's capacity is at least its length.
  BandOf of the reference. For at most 2^20 rows.
-/
import Derived.Test.YtjikmjhpmkakoaaGreatDoorPkCardHereditary14
import Derived.Test.YtjikmjhpmkakoaaGreatDoorPkCardHereditary08
namespace Go.Proofs.YtjikmjhpmkakoaaGreatDoor
open Go.RowKit

/-- The edges from i to the c vertices behind i. -/
def edgesIn (rs : List Int) (i : Nat) : Nat → List (Nat × Nat)
  | 0 => []
  | c + 1 => edgesIn rs i c ++ (if (gn rs i).testBit (i + 1 + c) = true then [(i, i + 1 + c)] else [])
def edgesTo (rs : List Int) : Nat → List (Nat × Nat)
  | 0 => []
  | i + 1 => edgesTo rs i ++ edgesIn rs i (rs.length - (i + 1))
theorem edgesIn_len (rs : List Int) (i : Nat) : ∀ c, (edgesIn rs i c).length ≤ c
  | 0 => by simp [edgesIn]
  | c + 1 => by
    have := edgesIn_len rs i c
    unfold edgesIn
    rw [List.length_append]
    split <;> simp <;> omega
theorem edgesTo_len (rs : List Int) : ∀ i, (edgesTo rs i).length ≤ i * rs.length
  | 0 => by simp [edgesTo]
  | i + 1 => by
    have h1 := edgesTo_len rs i
    have h2 := edgesIn_len rs i (rs.length - (i + 1))
    unfold edgesTo
    rw [List.length_append, Nat.succ_mul]
    omega

/-- The slices xs read as the pairs es. -/
def ValsOf (w : World) (xs : List Value) (es : List (Nat × Nat)) : Prop :=
  xs.length = es.length ∧ ∀ (k : Nat) (e : Nat × Nat), es[k]? = some e → ∃ g, xs[k]? = some (.slice (some ⟨g, 0, none⟩) 2 2) ∧ w.heap[g]? = some (.cells #[.int .i64 e.1, .int .i64 e.2] 3)
theorem ValsOf.nil (w : World) : ValsOf w [] [] := ⟨rfl, fun k e h => by simp at h⟩
theorem ValsOf.below {w w' : World} {xs : List Value} {es : List (Nat × Nat)} (h : ValsOf w xs es) (hb : Below w.heap.size w w') : ValsOf w' xs es :=
  ⟨h.1, fun k e he => by
    obtain ⟨g, h1, h2⟩ := h.2 k e he
    exact ⟨g, h1, (hb.block g (Array.getElem?_eq_some_iff.1 h2).1).trans h2⟩⟩
theorem ValsOf.grown {w w' : World} {base : Nat} {v : Value} {zs xs : List Value} {es : List (Nat × Nat)} (h : ValsOf w xs es) (ho : OwnV w base v zs) (hg : w.grownBy w' v.ownBlock) : ValsOf w' xs es :=
  ⟨h.1, fun k e he => by
    obtain ⟨g, h1, h2⟩ := h.2 k e he
    refine ⟨g, h1, (hg.block g (Array.getElem?_eq_some_iff.1 h2).1 ?_).trans h2⟩
    intro e
    obtain ⟨-, ⟨h1, -⟩ | ⟨g2, cp, cur, hv, -, hh, -⟩⟩ := ho
    · rw [h1] at e; cases e
    · rw [hv] at e
      simp only [Value.ownBlock, Option.some.injEq] at e
      subst e
      rw [h2] at hh
      simp at hh⟩
theorem ValsOf.push {w : World} {xs : List Value} {es : List (Nat × Nat)} {g a b : Nat} (h : ValsOf w xs es) (hg : w.heap[g]? = some (.cells #[.int .i64 a, .int .i64 b] 3)) :
    ValsOf w (xs ++ [.slice (some ⟨g, 0, none⟩) 2 2]) (es ++ [(a, b)]) := by
  refine ⟨by simp [h.1], fun k e he => ?_⟩
  by_cases hk : k < es.length
  · rw [List.getElem?_append_left hk] at he
    rw [List.getElem?_append_left (by rw [h.1]; exact hk)]
    exact h.2 k e he
  · rw [List.getElem?_append_right (by omega)] at he
    have hke : k = es.length := by
      obtain ⟨hl, -⟩ := List.getElem?_eq_some_iff.1 he
      simp at hl; omega
    subst hke
    simp at he
    subst he
    refine ⟨g, ?_, hg⟩
    rw [← h.1]; simp

theorem OwnV.mono {w : World} {base base' : Nat} {v : Value} {xs : List Value} (h : OwnV w base v xs) (hb : base' ≤ base) : OwnV w base' v xs := by
  obtain ⟨h0, h1 | ⟨g, cap, cur, hv, hg, r⟩⟩ := h
  · exact ⟨h0, .inl h1⟩
  · exact ⟨h0, .inr ⟨g, cap, cur, hv, Nat.le_trans hb hg, r⟩⟩

set_option maxRecDepth 100000 in
set_option maxHeartbeats 2000000 in
theorem implEdgesOf_any (rs : List Int) (ro : Option Addr) (rc : Nat) (hv : isGraphB rs.length rs = true) (w : World) (hr : IntsAt w ro rs) :
    Calls Tryz.prog 151 #[.agg #[.int .i64 rs.length, .slice ro rs.length rc]] w fun e w' => ∃ ao cap xs, e = .returned (.slice ao xs.length cap) ∧ Below w.heap.size w w' ∧ OwnV w' w.heap.size (.slice ao xs.length cap) xs ∧ ValsOf w' xs (edgesTo rs rs.length) := by
  have g := (VG.of hv).2
  have hg1 := g.pos
  have hg2 := g.le
  go_enter Tryz.func151, Tryz.ntmps151
  go_wp2_with fail
  generalize hW : w.alloc _ = W1
  have hsz : W1.heap.size = w.heap.size + 1 := by rw [← hW]; simp
  obtain ⟨hB, -, k0⟩ := alloc1 hW
  replace hr := hr.below hB
  have hb0 := k0.lt
  have hc0 := k0.cell 0
  have hc1 := k0.cell 1
  simp at hc0 hc1
  clear hW k0
  have HhB := Lib.hid hB
  clear hB
  obtain ⟨rb, rofs, rfl, hrb, hrc⟩ := hr.graph g
  have HRC := Lib.hid hrc
  clear hrc
  go_wp2_with fail
  generalize hW2 : W1.alloc _ = W2
  obtain ⟨hB2, -, -⟩ := alloc1 hW2
  have hO : OwnV W2 W1.heap.size (.slice (some ⟨W1.heap.size, 0, none⟩) 0 0) [] := by rw [← hW2]; exact OwnV.empty W1
  obtain ⟨m, rfl⟩ : ∃ m2 : Later W1, m2.w = W2 := ⟨⟨W2, hB2⟩, rfl⟩
  have hadr : Value.slice (some ⟨W1.heap.size, 0, none⟩) 0 0 = .slice (some ⟨w.heap.size + 1, 0, none⟩) 0 0 := by rw [hsz]
  rw [hadr] at hO
  clear hsz hadr
  clear hB2 hW2
  refine (implIsGraph_any _ _ _ _ _ (hr.later m) (by omega)).mono ?_
  rw [hv]
  rintro e w' ⟨rfl, hB3⟩
  replace hO := hO.below hB3
  obtain ⟨m, rfl⟩ : ∃ m2 : Later W1, m2.w = w' := ⟨m.on hB3, rfl⟩
  clear hB3
  go_wp2_with fail
  go_loopw [3, 15] (fun o i wr => (∃ m : Later W1, wr = m.w) ∧ ∃ k : Nat, k ≤ rs.length ∧ i = .int .i64 k ∧ ∃ ao cap xs, o = .slice ao xs.length cap ∧ OwnV wr W1.heap.size (.slice ao xs.length cap) xs ∧ ValsOf wr xs (edgesTo rs k)) (fun _ i _ => rs.length - (intOf i).toNat)
  case atStart => exact ⟨⟨m, rfl⟩, 0, by omega, rfl, _, _, [], rfl, hO, ValsOf.nil _⟩
  case round =>
    obtain ⟨⟨m, rfl⟩, k, hk, rfl, ao, cap, xs, rfl, hO, hV⟩ := hrel
    by_cases hlt : k < rs.length
    · have hcr := HRC.out k hlt
      have hg128 := g.lt128 hlt
      have hEl := edgesTo_len rs k
      have hkk : k * rs.length ≤ 49 := Nat.le_trans (Nat.mul_le_mul hk (Nat.le_refl _)) (Nat.mul_le_mul hg2 hg2)
      have HEl := Lib.hid (Nat.le_trans hEl hkk)
      clear hEl hkk
      have HES : Hid (edgesTo rs (k + 1) = edgesTo rs k ++ edgesIn rs k (rs.length - (k + 1))) := rfl
      generalize edgesTo rs k = E at *
      have HhO := Lib.hid hO
      clear hO
      have HhV := Lib.hid hV
      clear hV
      go_wp2_with fail
      go_loopw [3, 6] (fun o i wr => (∃ m : Later W1, wr = m.w) ∧ ∃ c : Nat, k + 1 + c ≤ rs.length ∧ i = .int .i64 (k + 1 + c : Nat) ∧ ∃ ao cap xs, o = .slice ao xs.length cap ∧ OwnV wr W1.heap.size (.slice ao xs.length cap) xs ∧ ValsOf wr xs (E ++ edgesIn rs k c)) (fun _ i _ => rs.length - (intOf i).toNat)
      case atStart => exact ⟨⟨m, rfl⟩, 0, by omega, by go_num, ao, cap, xs, rfl, HhO.out, by show ValsOf _ _ (E ++ []); rw [List.append_nil]; exact HhV.out⟩
      case round =>
        obtain ⟨⟨m, rfl⟩, c, hc, rfl, ao, cap, xs, rfl, hO, hV⟩ := hrel
        have hEl := edgesIn_len rs k c
        have hxl := hV.1
        rw [List.length_append] at hxl
        have hx56 : xs.length ≤ 1048576 := by have := HEl.out; omega
        clear hxl hEl
        have hms := m.size
        have HhO := Lib.hid hO
        clear hO
        have HhV := Lib.hid hV
        clear hV
        by_cases hct : k + 1 + c < rs.length
        · have hH := fun w : World => has_any (gn rs k : Int) ((k + 1 + c : Nat) : Int) (by omega) (by omega) w
          have HB : hasN (gn rs k : Int) ((k + 1 + c : Nat) : Int).toNat = (gn rs k).testBit (k + 1 + c) := hasN_nat _ _
          rw [HB] at hH
          clear HB
          have HI : Hid (E ++ edgesIn rs k (c + 1) = (E ++ edgesIn rs k c) ++ (if (gn rs k).testBit (k + 1 + c) = true then [(k, k + 1 + c)] else [])) := Lib.hid (by rw [List.append_assoc]; rfl)
          have hq : ((k + 1 + c : Nat) : Int) + 1 = ((k + 1 + (c + 1) : Nat) : Int) := by omega
          cases hb : (gn rs k).testBit (k + 1 + c)
          · rw [hb] at hH HI
            go_wp2_with (first | (go_at_call 60; refine (hH _).mono ?_; rintro e w' ⟨rfl, rfl⟩))
            go_roundw
            case rel => exact ⟨⟨m, rfl⟩, c + 1, by omega, by go_num, ao, cap, xs, rfl, HhO.out, by rw [HI.out]; simpa using HhV.out⟩
            case measure => simp [intOf]; omega
          · rw [hb] at hH HI
            go_wp2_with (first | (go_at_call 60; refine (hH _).mono ?_; rintro e w' ⟨rfl, rfl⟩) | (at_builtin; go_must (refine wpList_append_row rfl _ _ rfl W1.heap.size (.slice ao xs.length cap) xs (.slice (some ⟨m.w.heap.size, 0, none⟩) 2 2) rfl rfl (HhO.out.alloc _) (by show Value.slice (some ⟨m.w.heap.size + 1, 0, none⟩) 1 1 = _; simp) (by simp; omega) hx56 ?_); intro ao1 cap1 w1 hown1 hB1 hG1))
            have hC : (m.w.alloc (.cells #[.int .i64 k, .int .i64 ((k : Int) + 1 + c)] 3)).heap[m.w.heap.size]? = some (.cells #[.int .i64 k, .int .i64 ((k + 1 + c : Nat) : Int)] 3) := by rw [heap_alloc_new]; simp
            have hV1 := ((HhV.out.below ((Below.refl _ _).alloc (Nat.le_refl _) _)).push hC).below ((Below.refl _ _).alloc (Nat.le_refl _) (.cells #[.slice (some ⟨m.w.heap.size, 0, none⟩) 2 2] 24))
            have hV2 := hV1.grown ((HhO.out.alloc _).alloc _) hG1
            have hBm : Below W1.heap.size m.w w1 := ((Below.refl _ _).alloc hms _).trans hB1
            obtain ⟨m, rfl⟩ : ∃ m2 : Later W1, m2.w = w1 := ⟨⟨w1, m.below.trans hBm⟩, rfl⟩
            go_roundw
            case rel => exact ⟨⟨m, rfl⟩, c + 1, by omega, by go_num, ao1, cap1, xs ++ [_], by rw [List.length_append]; rfl, by rw [List.length_append]; exact hown1, by rw [HI.out]; exact hV2⟩
            case measure => simp [intOf]; omega
        · go_wp2_with fail
          go_roundw
          case rel => exact ⟨⟨m, rfl⟩, k + 1, by omega, by go_num, ao, cap, xs, rfl, HhO.out, by rw [HES.out, show rs.length - (k + 1) = c by omega]; exact HhV.out⟩
          case measure => simp [intOf]; omega
    · obtain rfl : k = rs.length := by omega
      have HhO := Lib.hid hO
      clear hO
      have HhV := Lib.hid hV
      clear hV
      go_wp2_with fail
      go_ret
      exact ⟨ao, cap, xs, rfl, below_later HhB.out m, HhO.out.mono (Nat.le_of_lt hb0), HhV.out⟩

end Go.Proofs.YtjikmjhpmkakoaaGreatDoor

namespace Go.Proofs.YtjikmjhpmkakoaaGreatDoor
open Go.RowKit

def edgeAt (rs l : List Int) (j : Nat) : Bool := (gn rs (gi l (j - 1)).toNat).testBit (gi l j).toNat
def wayB (n : Int) (rs l : List Int) : Bool := vertsB n rs l && decide (1 ≤ l.length ∧ ∀ j, j < l.length → 1 ≤ j → edgeAt rs l j = true)
theorem wayB_no {n : Int} {rs l : List Int} (h : vertsB n rs l = false) : wayB n rs l = false := by unfold wayB; rw [h]; rfl
theorem wayB_nil {n : Int} {rs l : List Int} (h : l.length = 0) : wayB n rs l = false := by unfold wayB; rw [decide_eq_false (by omega), Bool.and_false]
theorem wayB_bad {n : Int} {rs l : List Int} {j : Nat} (h1 : 1 ≤ j) (h2 : j < l.length) (h : edgeAt rs l j = false) : wayB n rs l = false := by
  unfold wayB; rw [decide_eq_false, Bool.and_false]; rintro ⟨_, a⟩; rw [a j h2 h1] at h; cases h
theorem wayB_ok {n : Int} {rs l : List Int} (hv : vertsB n rs l = true) (h0 : 1 ≤ l.length) (h : ∀ j, j < l.length → 1 ≤ j → edgeAt rs l j = true) : wayB n rs l = true := by
  unfold wayB; rw [hv, Bool.true_and, decide_eq_true_eq]; exact ⟨h0, h⟩
/-- A vertex of a list of different vertices, as a natural number. -/
theorem vert_at {n : Int} {rs l : List Int} (h : vertsB n rs l = true) {j : Nat} (hj : j < l.length) : ∃ v : Nat, gi l j = v ∧ v < rs.length := by
  obtain ⟨a, b⟩ := ((vertsB_true.1 h).2 j hj).1
  exact ⟨(gi l j).toNat, by omega, by omega⟩



end Go.Proofs.YtjikmjhpmkakoaaGreatDoor

namespace Go.Proofs.YtjikmjhpmkakoaaGreatDoor
open Go.RowKit

/-- Are places i and k of an order neighbours? -/
def nearB (rs l : List Int) (i k : Nat) : Bool := (gn rs (gi l i).toNat).testBit (gi l k).toNat
def bandRow (rs l : List Int) (i : Nat) : Nat → Nat → Nat
  | 0, a => a
  | k + 1, a => if nearB rs l i k = true then (if bandRow rs l i k a < i - k then i - k else bandRow rs l i k a) else bandRow rs l i k a
def bandTo (rs l : List Int) : Nat → Nat
  | 0 => 0
  | i + 1 => bandRow rs l i i (bandTo rs l i)
def bandV (n : Int) (rs l : List Int) : Int := if orderB n rs l = true then bandTo rs l l.length else -1
theorem bandV_no {n : Int} {rs l : List Int} (h : orderB n rs l = false) : bandV n rs l = -1 := by unfold bandV; rw [if_neg (by rw [h]; decide)]
theorem bandV_of {n : Int} {rs l : List Int} (h : orderB n rs l = true) : bandV n rs l = bandTo rs l l.length := by unfold bandV; rw [if_pos h]
theorem bandRow_no {rs l : List Int} {i k a : Nat} (h : nearB rs l i k = false) : bandRow rs l i (k + 1) a = bandRow rs l i k a := by
  show (if nearB rs l i k = true then _ else _) = _; rw [if_neg (by rw [h]; decide)]
theorem bandRow_yes {rs l : List Int} {i k a : Nat} (h : nearB rs l i k = true) : bandRow rs l i (k + 1) a = if bandRow rs l i k a < i - k then i - k else bandRow rs l i k a := by
  show (if nearB rs l i k = true then _ else _) = _; rw [if_pos h]
/-- What it bounds. -/
theorem bandRow_le {rs l : List Int} {i M : Nat} : ∀ k a, bandRow rs l i k a ≤ M ↔ a ≤ M ∧ ∀ j, j < k → nearB rs l i j = true → i - j ≤ M
  | 0, a => by simp [bandRow]
  | k + 1, a => by
    have ih := bandRow_le (rs := rs) (l := l) (i := i) (M := M) k a
    cases h : nearB rs l i k
    · rw [bandRow_no h, ih]
      constructor
      · rintro ⟨h1, h2⟩
        refine ⟨h1, fun j hj hn => ?_⟩
        by_cases e : j = k
        · subst e; rw [h] at hn; cases hn
        · exact h2 j (by omega) hn
      · rintro ⟨h1, h2⟩; exact ⟨h1, fun j hj => h2 j (by omega)⟩
    · have key : bandRow rs l i (k + 1) a ≤ M ↔ bandRow rs l i k a ≤ M ∧ i - k ≤ M := by rw [bandRow_yes h]; split <;> omega
      rw [key, ih]
      constructor
      · rintro ⟨⟨h1, h2⟩, h3⟩
        refine ⟨h1, fun j hj hn => ?_⟩
        by_cases e : j = k
        · subst e; exact h3
        · exact h2 j (by omega) hn
      · rintro ⟨h1, h2⟩; exact ⟨⟨h1, fun j hj => h2 j (by omega)⟩, h2 k (by omega) h⟩
theorem bandTo_le {rs l : List Int} {M : Nat} : ∀ n, bandTo rs l n ≤ M ↔ ∀ i, i < n → ∀ j, j < i → nearB rs l i j = true → i - j ≤ M
  | 0 => by simp [bandTo]
  | n + 1 => by
    have ih := bandTo_le (rs := rs) (l := l) (M := M) n
    show bandRow rs l n n (bandTo rs l n) ≤ M ↔ _
    rw [bandRow_le, ih]
    constructor
    · rintro ⟨h1, h2⟩ i hi
      by_cases e : i = n
      · subst e; exact h2
      · exact h1 i (by omega)
    · intro h; exact ⟨fun i hi => h i (by omega), h n (by omega)⟩


end Go.Proofs.YtjikmjhpmkakoaaGreatDoor
