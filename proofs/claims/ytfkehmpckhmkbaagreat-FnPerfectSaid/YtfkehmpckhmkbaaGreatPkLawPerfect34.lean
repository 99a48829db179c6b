/-
  EdgesOf on both sides, for every graph of at most 2^20 rows.
  l13Next and l13Find of the reference: the arcs that an arc forces at once; the place of an arc. For at most 2^20 rows.
-/
import Derived.Test.YtfkehmpckhmkbaaGreatPkLawPerfect30
import Derived.Test.YtfkehmpckhmkbaaGreatPkLawPerfect06
import Derived.Deep.CutRange
namespace Go.Proofs.YtfkehmpckhmkbaaGreat
open Go.RowKit

def edgesV (n : Int) (rs : List Int) : List (Nat × Nat) := if isGraphB n rs = true then edgesTo rs rs.length else []
theorem edgesV_no {n : Int} {rs : List Int} (h : isGraphB n rs = false) : edgesV n rs = [] := by unfold edgesV; rw [if_neg (by rw [h]; decide)]
theorem edgesV_of {n : Int} {rs : List Int} (h : isGraphB n rs = true) : edgesV n rs = edgesTo rs rs.length := by unfold edgesV; rw [if_pos h]

/-- A list of pairs has been made, each in a block of its own. -/
def RetEs (w : World) (es : List (Nat × Nat)) (e : Ending) (w' : World) : Prop :=
  ∃ ao cap xs, e = .returned (.slice ao xs.length cap) ∧ Below w.heap.size w w' ∧ OwnV w' w.heap.size (.slice ao xs.length cap) xs ∧ ValsOf w' xs es


set_option maxRecDepth 100000 in
set_option maxHeartbeats 4000000 in
theorem specEdges_all (n : Int) (rs : List Int) (ro : Option Addr) (rc : Nat) (w : World) (hr : IntsAt w ro rs) (hrl : rs.length ≤ 1048576) :
    Calls Tryz.prog 80 #[.agg #[.int .i64 n, .slice ro rs.length rc]] w (RetEs w (edgesV n rs)) := by
  go_enter Tryz.func80, Tryz.ntmps80
  go_wp2_with fail
  generalize hW : w.alloc _ = W1
  have hsz : W1.heap.size = w.heap.size + 1 := by rw [← hW]; simp
  obtain ⟨hB, -, k0⟩ := alloc1 hW
  replace hr := hr.below hB
  have hb0 := k0.lt
  have hc0 := k0.cell 0
  have hc1 := k0.cell 1
  simp at hc0 hc1
  clear hW k0
  have HhB := Lib.hid hB
  clear hB
  generalize hW2 : W1.alloc _ = W2
  obtain ⟨hB2, -, -⟩ := alloc1 hW2
  have hO : OwnV W2 W1.heap.size (.slice (some ⟨W1.heap.size, 0, none⟩) 0 0) [] := by rw [← hW2]; exact OwnV.empty W1
  obtain ⟨m, rfl⟩ : ∃ m2 : Later W1, m2.w = W2 := ⟨⟨W2, hB2⟩, rfl⟩
  have hadr : Value.slice (some ⟨W1.heap.size, 0, none⟩) 0 0 = .slice (some ⟨w.heap.size + 1, 0, none⟩) 0 0 := by rw [hsz]
  rw [hadr] at hO
  clear hsz hadr
  clear hB2 hW2
  have hG := fun m : Later W1 => specIsGraph_any n rs ro rc m.w (hr.later m) hrl
  cases hv : isGraphB n rs
  · have HE := Lib.hid (edgesV_no hv)
    rw [hv] at hG
    have HhO := Lib.hid hO
    clear hO
    go_loopw [3, 4] (fun o i wr => (∃ m : Later W1, wr = m.w) ∧ i = .int .i64 0 ∧ ∃ ao cap, o = .slice ao 0 cap ∧ OwnV wr W1.heap.size (.slice ao 0 cap) []) (fun _ _ _ => 0)
    case atStart => exact ⟨⟨m, rfl⟩, rfl, _, _, rfl, HhO.out⟩
    case round =>
      clear HhO
      obtain ⟨⟨m, rfl⟩, rfl, ao, cap, rfl, hO⟩ := hrel
      by_cases h0 : 0 < n
      · have d0 : decide ((0 : Int) < n) = true := decide_eq_true h0
        have HhO := Lib.hid hO
        clear hO
        go_wp2_with fail
        refine (hG m).mono ?_
        rintro e w' ⟨rfl, hB3⟩
        have hO := HhO.out.below hB3
        obtain ⟨m, rfl⟩ : ∃ m2 : Later W1, m2.w = w' := ⟨m.on hB3, rfl⟩
        clear hB3 HhO hG
        have HhO := Lib.hid hO
        clear hO
        go_wp2_with fail
        go_ret
        exact ⟨_, _, [], rfl, below_later HhB.out m, HhO.out.mono (Nat.le_of_lt hb0), by rw [HE.out]; exact ValsOf.nil _⟩
      · have d0 : decide ((0 : Int) < n) = false := decide_eq_false h0
        have HhO := Lib.hid hO
        clear hO
        go_wp2_with fail
        go_ret
        exact ⟨_, _, [], rfl, below_later HhB.out m, HhO.out.mono (Nat.le_of_lt hb0), by rw [HE.out]; exact ValsOf.nil _⟩
  obtain ⟨rfl, g⟩ := VG.of hv
  have HE := Lib.hid (edgesV_of hv)
  rw [hv] at hG
  have hg1 := g.pos
  have hg2 := g.le
  go_loopw [3, 4] (fun o i wr => (∃ m : Later W1, wr = m.w) ∧ ∃ k : Nat, k ≤ rs.length ∧ i = .int .i64 k ∧ ∃ ao cap xs, o = .slice ao xs.length cap ∧ OwnV wr W1.heap.size (.slice ao xs.length cap) xs ∧ ValsOf wr xs (edgesTo rs k)) (fun _ i _ => rs.length - (intOf i).toNat)
  case atStart => exact ⟨⟨m, rfl⟩, 0, by omega, rfl, _, _, [], rfl, hO, ValsOf.nil _⟩
  case round =>
    obtain ⟨⟨m, rfl⟩, k, hk, rfl, ao, cap, xs, rfl, hO, hV⟩ := hrel
    by_cases hlt : k < rs.length
    · have hEl := edgesTo_len rs k
      have hkk : k * rs.length ≤ 49 := Nat.le_trans (Nat.mul_le_mul hk (Nat.le_refl _)) (Nat.mul_le_mul hg2 hg2)
      have HEl := Lib.hid (Nat.le_trans hEl hkk)
      clear hEl hkk
      have HES : Hid (edgesTo rs (k + 1) = edgesTo rs k ++ edgesIn rs k (rs.length - (k + 1))) := rfl
      generalize edgesTo rs k = E at *
      have HhO := Lib.hid hO
      clear hO
      have HhV := Lib.hid hV
      clear hV
      go_wp2_with fail
      refine (hG m).mono ?_
      rintro e w' ⟨rfl, hB3⟩
      have hO := HhO.out.below hB3
      have hV := HhV.out.below hB3
      obtain ⟨m, rfl⟩ : ∃ m2 : Later W1, m2.w = w' := ⟨m.on hB3, rfl⟩
      clear hB3 HhO HhV
      have HhO := Lib.hid hO
      clear hO
      have HhV := Lib.hid hV
      clear hV
      go_wp2_with fail
      go_loopw [3, 5] (fun o i wr => (∃ m : Later W1, wr = m.w) ∧ ∃ c : Nat, k + 1 + c ≤ rs.length ∧ i = .int .i64 (k + 1 + c : Nat) ∧ ∃ ao cap xs, o = .slice ao xs.length cap ∧ OwnV wr W1.heap.size (.slice ao xs.length cap) xs ∧ ValsOf wr xs (E ++ edgesIn rs k c)) (fun _ i _ => rs.length - (intOf i).toNat)
      case atStart => exact ⟨⟨m, rfl⟩, 0, by omega, by go_num, ao, cap, xs, rfl, HhO.out, by show ValsOf _ _ (E ++ []); rw [List.append_nil]; exact HhV.out⟩
      case round =>
        obtain ⟨⟨m, rfl⟩, c, hc, rfl, ao, cap, xs, rfl, hO, hV⟩ := hrel
        have hEl := edgesIn_len rs k c
        have hxl := hV.1
        rw [List.length_append] at hxl
        have hx56 : xs.length ≤ 1048576 := by have := HEl.out; omega
        clear hxl hEl
        have hms := m.size
        have HhO := Lib.hid hO
        clear hO
        have HhV := Lib.hid hV
        clear hV
        by_cases hct : k + 1 + c < rs.length
        · have hH := fun m : Later W1 => l2Edge_any rs k (k + 1 + c) ro rc m.w (hr.later m) g hlt hct
          have HI : Hid (E ++ edgesIn rs k (c + 1) = (E ++ edgesIn rs k c) ++ (if (gn rs k).testBit (k + 1 + c) = true then [(k, k + 1 + c)] else [])) := Lib.hid (by rw [List.append_assoc]; rfl)
          have hq : ((k + 1 + c : Nat) : Int) + 1 = ((k + 1 + (c + 1) : Nat) : Int) := by omega
          cases hb : (gn rs k).testBit (k + 1 + c)
          all_goals
            rw [hb] at hH HI
            go_wp2_with fail
            refine (hH m).mono ?_
            rintro e w' ⟨rfl, hB3⟩
            have hO := HhO.out.below hB3
            have hV := HhV.out.below hB3
            obtain ⟨m, rfl⟩ : ∃ m2 : Later W1, m2.w = w' := ⟨m.on hB3, rfl⟩
            clear hB3 HhO HhV hH hms
            have hms := m.size
            have HhO := Lib.hid hO
            clear hO
            have HhV := Lib.hid hV
            clear hV
          · go_wp2_with fail
            go_roundw
            case rel => exact ⟨⟨m, rfl⟩, c + 1, by omega, by go_num, ao, cap, xs, rfl, HhO.out, by rw [HI.out]; simpa using HhV.out⟩
            case measure => simp [intOf]; omega
          · go_wp2_with (first | (at_builtin; go_must (refine wpList_append_row rfl _ _ rfl W1.heap.size (.slice ao xs.length cap) xs (.slice (some ⟨m.w.heap.size, 0, none⟩) 2 2) rfl rfl (HhO.out.alloc _) (by show Value.slice (some ⟨m.w.heap.size + 1, 0, none⟩) 1 1 = _; simp) (by simp; omega) hx56 ?_); intro ao1 cap1 w1 hown1 hB1 hG1))
            have hC : (m.w.alloc (.cells #[.int .i64 k, .int .i64 ((k : Int) + 1 + c)] 3)).heap[m.w.heap.size]? = some (.cells #[.int .i64 k, .int .i64 ((k + 1 + c : Nat) : Int)] 3) := by rw [heap_alloc_new]; simp
            have hV1 := ((HhV.out.below ((Below.refl _ _).alloc (Nat.le_refl _) _)).push hC).below ((Below.refl _ _).alloc (Nat.le_refl _) (.cells #[.slice (some ⟨m.w.heap.size, 0, none⟩) 2 2] 24))
            have hV2 := hV1.grown ((HhO.out.alloc _).alloc _) hG1
            have hBm : Below W1.heap.size m.w w1 := ((Below.refl _ _).alloc hms _).trans hB1
            obtain ⟨m, rfl⟩ : ∃ m2 : Later W1, m2.w = w1 := ⟨⟨w1, m.below.trans hBm⟩, rfl⟩
            go_roundw
            case rel => exact ⟨⟨m, rfl⟩, c + 1, by omega, by go_num, ao1, cap1, xs ++ [_], by rw [List.length_append]; rfl, by rw [List.length_append]; exact hown1, by rw [HI.out]; exact hV2⟩
            case measure => simp [intOf]; omega
        · go_wp2_with fail
          go_roundw
          case rel => exact ⟨⟨m, rfl⟩, k + 1, by omega, by go_num, ao, cap, xs, rfl, HhO.out, by rw [HES.out, show rs.length - (k + 1) = c by omega]; exact HhV.out⟩
          case measure => simp [intOf]; omega
    · obtain rfl : k = rs.length := by omega
      have HhO := Lib.hid hO
      clear hO
      have HhV := Lib.hid hV
      clear hV
      go_wp2_with fail
      go_ret
      exact ⟨ao, cap, xs, rfl, below_later HhB.out m, HhO.out.mono (Nat.le_of_lt hb0), by rw [HE.out]; exact HhV.out⟩

end Go.Proofs.YtfkehmpckhmkbaaGreat

namespace Go.Proofs.YtfkehmpckhmkbaaGreat
open Go.RowKit

/-- The arc from v to w is forced at once by that from a to b. -/
def nxB (rs : List Int) (a b v w : Nat) : Bool := (gn rs v).testBit w && ((decide (v = a) && !decide (w = b) && !(gn rs w).testBit b) || (decide (w = b) && !decide (v = a) && !(gn rs v).testBit a))
def nxIn (rs : List Int) (a b k : Nat) : Nat → List (Nat × Nat)
  | 0 => []
  | c + 1 => nxIn rs a b k c ++ (if nxB rs a b k c = true then [(k, c)] else [])
def nxTo (rs : List Int) (a b : Nat) : Nat → List (Nat × Nat)
  | 0 => []
  | k + 1 => nxTo rs a b k ++ nxIn rs a b k rs.length
def nxV (rs : List Int) (a b : Nat) : List (Nat × Nat) := nxTo rs a b rs.length
theorem mem_nxIn {rs : List Int} {a b k : Nat} {p : Nat × Nat} : ∀ c, p ∈ nxIn rs a b k c ↔ p.1 = k ∧ p.2 < c ∧ nxB rs a b p.1 p.2 = true
  | 0 => by simp [nxIn]
  | c + 1 => by
    obtain ⟨x, y⟩ := p
    have ih := mem_nxIn (rs := rs) (a := a) (b := b) (k := k) (p := (x, y)) c
    show (x, y) ∈ nxIn rs a b k c ++ _ ↔ _
    rw [List.mem_append, ih]
    dsimp only
    constructor
    · rintro (⟨h1, h2, h3⟩ | h)
      · exact ⟨h1, by omega, h3⟩
      · by_cases hc : nxB rs a b k c = true
        · rw [if_pos hc] at h
          simp only [List.mem_singleton, Prod.mk.injEq] at h
          obtain ⟨rfl, rfl⟩ := h
          exact ⟨rfl, by omega, hc⟩
        · rw [if_neg hc] at h; cases h
    · rintro ⟨rfl, h2, h3⟩
      by_cases e : y = c
      · subst e; right; rw [if_pos h3]; exact List.mem_singleton.2 rfl
      · exact .inl ⟨rfl, by omega, h3⟩
theorem mem_nxTo {rs : List Int} {a b : Nat} {p : Nat × Nat} : ∀ k, p ∈ nxTo rs a b k ↔ p.1 < k ∧ p.2 < rs.length ∧ nxB rs a b p.1 p.2 = true
  | 0 => by simp [nxTo]
  | k + 1 => by
    have ih := mem_nxTo (rs := rs) (a := a) (b := b) (p := p) k
    show p ∈ nxTo rs a b k ++ nxIn rs a b k rs.length ↔ _
    rw [List.mem_append, ih, mem_nxIn]
    constructor
    · rintro (⟨h1, h2, h3⟩ | ⟨h1, h2, h3⟩)
      · exact ⟨by omega, h2, h3⟩
      · exact ⟨by omega, h2, h3⟩
    · rintro ⟨h1, h2, h3⟩
      by_cases e : p.1 = k
      · exact .inr ⟨e, h2, h3⟩
      · exact .inl ⟨by omega, h2, h3⟩
theorem mem_nxV {rs : List Int} {a b : Nat} {p : Nat × Nat} : p ∈ nxV rs a b ↔ p.1 < rs.length ∧ p.2 < rs.length ∧ nxB rs a b p.1 p.2 = true := mem_nxTo _
theorem nxIn_len (rs : List Int) (a b k : Nat) : ∀ c, (nxIn rs a b k c).length ≤ c
  | 0 => Nat.le_refl _
  | c + 1 => by
    have ih := nxIn_len rs a b k c
    show (nxIn rs a b k c ++ _).length ≤ _
    rw [List.length_append]
    split <;> simp <;> omega
theorem nxTo_len (rs : List Int) (a b : Nat) : ∀ k, (nxTo rs a b k).length ≤ k * rs.length
  | 0 => by simp [nxTo]
  | k + 1 => by
    have ih := nxTo_len rs a b k
    have h := nxIn_len rs a b k rs.length
    show (nxTo rs a b k ++ _).length ≤ _
    rw [List.length_append, Nat.succ_mul]; omega
theorem nxV_len {rs : List Int} (g : VG rs) (a b : Nat) : (nxV rs a b).length ≤ 49 :=
  Nat.le_trans (nxTo_len rs a b _) (Nat.mul_le_mul g.le g.le)

/-- Each of the slices lies in a block from B on. -/
def FreshV (B : Nat) (xs : List Value) : Prop := ∀ u ∈ xs, ∃ g n c, B ≤ g ∧ u = Value.slice (some ⟨g, 0, none⟩) n c
theorem FreshV.nil (B : Nat) : FreshV B [] := fun u h => by cases h
theorem FreshV.push {B g n c : Nat} {xs : List Value} (h : FreshV B xs) (hg : B ≤ g) : FreshV B (xs ++ [.slice (some ⟨g, 0, none⟩) n c]) := fun u hu => by
  rcases List.mem_append.1 hu with hu | hu
  · exact h u hu
  · rw [List.mem_singleton] at hu; exact ⟨g, n, c, hg, hu⟩

set_option maxRecDepth 100000 in
set_option maxHeartbeats 4000000 in
theorem specNext_any (rs : List Int) (a b : Nat) (ro : Option Addr) (rc : Nat) (w : World) (hr : IntsAt w ro rs) (g : VG rs) (ha : a < rs.length) (hb : b < rs.length) :
    Calls Tryz.prog 103 #[.agg #[.int .i64 rs.length, .slice ro rs.length rc], .int .i64 a, .int .i64 b] w fun e w' => ∃ ao cap xs, e = .returned (.slice ao xs.length cap) ∧ Below w.heap.size w w' ∧ OwnV w' w.heap.size (.slice ao xs.length cap) xs ∧ ValsOf w' xs (nxV rs a b) ∧ FreshV w.heap.size xs := by
  go_enter Tryz.func103, Tryz.ntmps103
  go_wp2_with fail
  generalize hW : w.alloc _ = W1
  have hsz : W1.heap.size = w.heap.size + 1 := by rw [← hW]; simp
  obtain ⟨hB, -, k0⟩ := alloc1 hW
  replace hr := hr.below hB
  have hb0 := k0.lt
  have hc0 := k0.cell 0
  have hc1 := k0.cell 1
  simp at hc0 hc1
  clear hW k0
  have HhB := Lib.hid hB
  clear hB
  generalize hW2 : W1.alloc _ = W2
  obtain ⟨hB2, -, -⟩ := alloc1 hW2
  have hO : OwnV W2 W1.heap.size (.slice (some ⟨W1.heap.size, 0, none⟩) 0 0) [] := by rw [← hW2]; exact OwnV.empty W1
  obtain ⟨m, rfl⟩ : ∃ m2 : Later W1, m2.w = W2 := ⟨⟨W2, hB2⟩, rfl⟩
  have hadr : Value.slice (some ⟨W1.heap.size, 0, none⟩) 0 0 = .slice (some ⟨w.heap.size + 1, 0, none⟩) 0 0 := by rw [hsz]
  rw [hadr] at hO
  clear hsz hadr
  clear hB2 hW2
  have hg1 := g.pos
  have hg2 := g.le
  have HNx : Hid (nxV rs a b = nxTo rs a b rs.length) := rfl
  go_loopw [7, 8] (fun o i wr => (∃ m : Later W1, wr = m.w) ∧ ∃ k : Nat, k ≤ rs.length ∧ i = .int .i64 k ∧ ∃ ao cap xs, o = .slice ao xs.length cap ∧ OwnV wr W1.heap.size (.slice ao xs.length cap) xs ∧ ValsOf wr xs (nxTo rs a b k) ∧ FreshV w.heap.size xs) (fun _ i _ => rs.length - (intOf i).toNat)
  case atStart => exact ⟨⟨m, rfl⟩, 0, by omega, rfl, _, _, [], rfl, hO, ValsOf.nil _, FreshV.nil _⟩
  case round =>
    obtain ⟨⟨m, rfl⟩, k, hk, rfl, ao, cap, xs, rfl, hO, hV, hFr⟩ := hrel
    by_cases hlt : k < rs.length
    · have hEl := nxTo_len rs a b k
      have hkk : k * rs.length ≤ 49 := Nat.le_trans (Nat.mul_le_mul hk (Nat.le_refl _)) (Nat.mul_le_mul hg2 hg2)
      have HEl := Lib.hid (Nat.le_trans hEl hkk)
      clear hEl hkk
      have HES : Hid (nxTo rs a b (k + 1) = nxTo rs a b k ++ nxIn rs a b k rs.length) := rfl
      generalize nxTo rs a b k = E at *
      have HhO := Lib.hid hO
      clear hO
      have HhV := Lib.hid hV
      clear hV
      have HhFr := Lib.hid hFr
      clear hFr
      go_wp2_with fail
      go_loopw [7, 9] (fun o i wr => (∃ m : Later W1, wr = m.w) ∧ ∃ c : Nat, c ≤ rs.length ∧ i = .int .i64 c ∧ ∃ ao cap xs, o = .slice ao xs.length cap ∧ OwnV wr W1.heap.size (.slice ao xs.length cap) xs ∧ ValsOf wr xs (E ++ nxIn rs a b k c) ∧ FreshV w.heap.size xs) (fun _ i _ => rs.length - (intOf i).toNat)
      case atStart => exact ⟨⟨m, rfl⟩, 0, by omega, rfl, ao, cap, xs, rfl, HhO.out, by show ValsOf _ _ (E ++ []); rw [List.append_nil]; exact HhV.out, HhFr.out⟩
      case round =>
        obtain ⟨⟨m, rfl⟩, c, hc, rfl, ao, cap, xs, rfl, hO, hV, hFr⟩ := hrel
        have hEl := nxIn_len rs a b k c
        have hxl := hV.1
        rw [List.length_append] at hxl
        have hx56 : xs.length ≤ 1048576 := by have := HEl.out; omega
        clear hxl hEl
        have HhO := Lib.hid hO
        clear hO
        have HhV := Lib.hid hV
        clear hV
        have HhFr := Lib.hid hFr
        clear hFr
        by_cases hct : c < rs.length
        · have hrm := hr.later m
          have hE1 := fun n : Later m.w => l2Edge_any rs k c ro rc n.w (hrm.later n) g hlt hct
          have hE2 := fun n : Later m.w => l2Edge_any rs c b ro rc n.w (hrm.later n) g hct hb
          have hE3 := fun n : Later m.w => l2Edge_any rs k a ro rc n.w (hrm.later n) g hlt ha
          have HX : Hid (nxB rs a b k c = ((gn rs k).testBit c && ((decide (k = a) && !decide (c = b) && !(gn rs c).testBit b) || (decide (c = b) && !decide (k = a) && !(gn rs k).testBit a)))) := rfl
          have HI : Hid (E ++ nxIn rs a b k (c + 1) = (E ++ nxIn rs a b k c) ++ (if nxB rs a b k c = true then [(k, c)] else [])) := Lib.hid (by rw [List.append_assoc]; rfl)
          generalize (gn rs k).testBit c = x1 at *
          generalize (gn rs c).testBit b = x2 at *
          generalize (gn rs k).testBit a = x3 at *
          generalize nxB rs a b k c = X at *
          go_upto_region 8 with fail
          go_cut [60] from 17 to 66 (fun v wx => v = .bool X ∧ ∃ m' : Later m.w, wx = m'.w)
          case first =>
            have hcm0 := (m.cell _ 0 hb0).trans hc0
            have hcm1 := (m.cell _ 1 hb0).trans hc1
            have hbm := Nat.lt_of_lt_of_le hb0 m.size
            clear hc0 hc1 HI HES HEl hO HhO HhV HNx
            cases x1
            · go_wp2_with fail
              refine (Calls.later (Later.refl m.w) (hE1 (Later.refl m.w))).mono ?_
              rintro e w' ⟨rfl, n, rfl⟩
              go_wp2_with fail
              go_meet
              exact ⟨by rw [HX.out]; rfl, n, rfl⟩
            · by_cases e1 : k = a
              · have d1 : ((k : Int) == (a : Int)) = true := by rw [beq_iff_eq]; omega
                have d1' : ((k : Int) != (a : Int)) = false := by rw [bne, d1]; rfl
                by_cases e2 : c = b
                · have d2 : ((c : Int) == (b : Int)) = true := by rw [beq_iff_eq]; omega
                  have d2' : ((c : Int) != (b : Int)) = false := by rw [bne, d2]; rfl
                  have E1 := Lib.hid e1
                  have E2 := Lib.hid e2
                  clear e1 e2
                  go_wp2_with fail
                  refine (Calls.later (Later.refl m.w) (hE1 (Later.refl m.w))).mono ?_
                  rintro e w' ⟨rfl, n, rfl⟩
                  go_wp2_with fail
                  go_meet
                  exact ⟨by rw [HX.out, decide_eq_true E1.out, decide_eq_true E2.out]; rfl, n, rfl⟩
                · have d2 : ((c : Int) == (b : Int)) = false := by rw [beq_eq_false_iff_ne]; omega
                  have d2' : ((c : Int) != (b : Int)) = true := by rw [bne, d2]; rfl
                  cases x2
                  all_goals
                    have E1 := Lib.hid e1
                    have E2 := Lib.hid e2
                    clear e1 e2
                    go_wp2_with fail
                    refine (Calls.later (Later.refl m.w) (hE1 (Later.refl m.w))).mono ?_
                    rintro e w' ⟨rfl, n, rfl⟩
                    go_wp2_with fail
                    refine (Calls.later n (hE2 n)).mono ?_
                    rintro e w' ⟨rfl, n, rfl⟩
                    go_wp2_with fail
                    go_meet
                    exact ⟨by rw [HX.out, decide_eq_true E1.out, decide_eq_false E2.out]; rfl, n, rfl⟩
              · have d1 : ((k : Int) == (a : Int)) = false := by rw [beq_eq_false_iff_ne]; omega
                have d1' : ((k : Int) != (a : Int)) = true := by rw [bne, d1]; rfl
                by_cases e2 : c = b
                · have d2 : ((c : Int) == (b : Int)) = true := by rw [beq_iff_eq]; omega
                  cases x3
                  all_goals
                    have E1 := Lib.hid e1
                    have E2 := Lib.hid e2
                    clear e1 e2
                    go_wp2_with fail
                    refine (Calls.later (Later.refl m.w) (hE1 (Later.refl m.w))).mono ?_
                    rintro e w' ⟨rfl, n, rfl⟩
                    go_wp2_with fail
                    refine (Calls.later n (hE3 n)).mono ?_
                    rintro e w' ⟨rfl, n, rfl⟩
                    go_wp2_with fail
                    go_meet
                    exact ⟨by rw [HX.out, decide_eq_false E1.out, decide_eq_true E2.out]; rfl, n, rfl⟩
                · have d2 : ((c : Int) == (b : Int)) = false := by rw [beq_eq_false_iff_ne]; omega
                  have E1 := Lib.hid e1
                  have E2 := Lib.hid e2
                  clear e1 e2
                  go_wp2_with fail
                  refine (Calls.later (Later.refl m.w) (hE1 (Later.refl m.w))).mono ?_
                  rintro e w' ⟨rfl, n, rfl⟩
                  go_wp2_with fail
                  go_meet
                  exact ⟨by rw [HX.out, decide_eq_false E1.out, decide_eq_false E2.out]; rfl, n, rfl⟩
          case rest =>
            obtain ⟨rfl, m', rfl⟩ := hcut
            have hO := HhO.out.below m'.below
            have hV := HhV.out.below m'.below
            obtain ⟨m2, hm2⟩ : ∃ m2 : Later W1, m2.w = m'.w := ⟨m.on m'.below, rfl⟩
            rw [← hm2] at hO hV ⊢
            clear hE1 hE2 hE3 HX HhO HhV hm2 m'
            have hms := m2.size
            cases X
            · have HhO := Lib.hid hO
              clear hO
              have HhV := Lib.hid hV
              clear hV
              go_wp2_with fail
              go_roundw
              case rel => exact ⟨⟨m2, rfl⟩, c + 1, by omega, by go_num, ao, cap, xs, rfl, HhO.out, by rw [HI.out]; simpa using HhV.out, HhFr.out⟩
              case measure => simp [intOf]; omega
            · have HhO := Lib.hid hO
              clear hO
              have HhV := Lib.hid hV
              clear hV
              go_wp2_with (first | (at_builtin; go_must (refine wpList_append_row rfl _ _ rfl W1.heap.size (.slice ao xs.length cap) xs (.slice (some ⟨m2.w.heap.size, 0, none⟩) 2 2) rfl rfl (HhO.out.alloc _) (by show Value.slice (some ⟨m2.w.heap.size + 1, 0, none⟩) 1 1 = _; simp) (by simp; omega) hx56 ?_); intro ao1 cap1 w1 hown1 hB1 hG1))
              have hC : (m2.w.alloc (.cells #[.int .i64 k, .int .i64 c] 3)).heap[m2.w.heap.size]? = some (.cells #[.int .i64 k, .int .i64 c] 3) := by rw [heap_alloc_new]
              have hV1 := ((HhV.out.below ((Below.refl _ _).alloc (Nat.le_refl _) _)).push hC).below ((Below.refl _ _).alloc (Nat.le_refl _) (.cells #[.slice (some ⟨m2.w.heap.size, 0, none⟩) 2 2] 24))
              have hV2 := hV1.grown ((HhO.out.alloc _).alloc _) hG1
              have hBm : Below W1.heap.size m2.w w1 := ((Below.refl _ _).alloc hms _).trans hB1
              obtain ⟨m, rfl⟩ : ∃ m3 : Later W1, m3.w = w1 := ⟨⟨w1, m2.below.trans hBm⟩, rfl⟩
              go_roundw
              case rel => exact ⟨⟨m, rfl⟩, c + 1, by omega, by go_num, ao1, cap1, xs ++ [_], by rw [List.length_append]; rfl, by rw [List.length_append]; exact hown1, by rw [HI.out]; exact hV2, HhFr.out.push (by omega)⟩
              case measure => simp [intOf]; omega
        · go_wp2_with fail
          go_roundw
          case rel => exact ⟨⟨m, rfl⟩, k + 1, by omega, by go_num, ao, cap, xs, rfl, HhO.out, by rw [HES.out, show rs.length = c by omega]; exact HhV.out, HhFr.out⟩
          case measure => simp [intOf]; omega
    · obtain rfl : k = rs.length := by omega
      have HhO := Lib.hid hO
      clear hO
      have HhV := Lib.hid hV
      clear hV
      have HhFr := Lib.hid hFr
      clear hFr
      go_wp2_with fail
      go_ret
      exact ⟨ao, cap, xs, rfl, below_later HhB.out m, HhO.out.mono (Nat.le_of_lt hb0), by rw [HNx.out]; exact HhV.out, HhFr.out⟩

theorem ValsOf.at2 {w : World} {xs : List Value} {es : List (Nat × Nat)} (h : ValsOf w xs es) {k : Nat} {e : Nat × Nat} (he : es[k]? = some e) : ∃ g, xs[k]? = some (.slice (some ⟨g, 0, none⟩) 2 2) ∧ g < w.heap.size ∧ w.cell? ⟨g, 0, none⟩ = some (.int .i64 e.1) ∧ w.cell? ⟨g, 1, none⟩ = some (.int .i64 e.2) := by
  obtain ⟨g, h1, h2⟩ := h.2 k e he
  have k0 : Blk w g #[.int .i64 e.1, .int .i64 e.2] 3 := h2
  have c0 := k0.cell 0
  have c1 := k0.cell 1
  simp at c0 c1
  exact ⟨g, h1, k0.lt, c0, c1⟩

/-- The place of a pair. -/
def fdV (es : List (Nat × Nat)) (p : Nat × Nat) : Int := idxV (firstB (fun j => decide (es[j]? = some p)) es.length)
theorem fdV_hit {es : List (Nat × Nat)} {p : Nat × Nat} {k : Nat} (hk : k < es.length) (h : ∀ j, j < k → es[j]? ≠ some p) (hp : es[k]? = some p) : (k : Int) = fdV es p := by
  unfold fdV; rw [firstB_hit hk (fun j hj => decide_eq_false (h j hj)) (decide_eq_true hp)]; rfl
theorem fdV_never {es : List (Nat × Nat)} {p : Nat × Nat} (h : ∀ j, j < es.length → es[j]? ≠ some p) : -1 = fdV es p := by
  unfold fdV; rw [firstB_none (fun j hj => decide_eq_false (h j hj))]; rfl
theorem fdV_neg {es : List (Nat × Nat)} {p : Nat × Nat} : fdV es p < 0 ↔ p ∉ es := by
  unfold fdV
  rcases hf : firstB (fun j => decide (es[j]? = some p)) es.length with _ | i
  · unfold firstB at hf
    rw [List.find?_eq_none] at hf
    refine ⟨fun _ hm => ?_, fun _ => by show (-1 : Int) < 0; decide⟩
    obtain ⟨i, hi, e⟩ := List.mem_iff_getElem.1 hm
    have := hf i (by simpa using hi)
    rw [List.getElem?_eq_getElem hi, e] at this
    simp at this
  · unfold firstB at hf
    rw [List.find?_range_eq_some] at hf
    obtain ⟨h1, -, -⟩ := hf
    have hm := List.mem_of_getElem? (of_decide_eq_true h1)
    exact ⟨fun h => absurd h (by show ¬((i : Int) < 0); omega), fun h => absurd hm h⟩

set_option maxHeartbeats 1000000 in
theorem specFind_any (es : List (Nat × Nat)) (a b : Nat) (xs : List Value) (ao : Option Addr) (base c : Nat) (w : World) (hO : OwnV w base (.slice ao xs.length c) xs) (hV : ValsOf w xs es) (hl : xs.length ≤ 1048576) :
    Calls Tryz.prog 82 #[.slice ao xs.length c, .int .i64 a, .int .i64 b] w fun e w' => e = .returned (.int .i64 (fdV es (a, b))) ∧ w = w' := by
  have hn := hV.1
  have Hhn := Lib.hid hn
  clear hn
  have HhO := Lib.hid hO
  clear hO
  have HhV := Lib.hid hV
  clear hV
  go_enter Tryz.func82, Tryz.ntmps82
  go_wp2_with fail
  go_loopw [7] (fun i wr => wr = w ∧ ∃ k : Nat, k ≤ xs.length ∧ i = .int .i64 k ∧ ∀ j, j < k → es[j]? ≠ some (a, b)) (fun i _ => xs.length - (intOf i).toNat)
  case atStart => exact ⟨rfl, 0, by omega, rfl, fun j h => by omega⟩
  case round =>
    obtain ⟨rfl, k, hk, rfl, hP⟩ := hrel
    have HhP := Lib.hid hP
    clear hP
    by_cases hlt : k < xs.length
    · obtain ⟨g0, e0, -, hg0, hc⟩ := HhO.out.cells (by omega)
      have he : es[k]? = some es[k] := List.getElem?_eq_getElem (by have := Hhn.out; omega)
      obtain ⟨g, h1, hg, c0, c1⟩ := HhV.out.at2 he
      have hck := hc k _ h1
      generalize es[k] = p at *
      obtain ⟨x, y⟩ := p
      dsimp only at c0 c1
      have HNo : Hid ((x, y) ≠ (a, b) → es[k]? ≠ some (a, b)) := fun h e => h (Option.some.inj (he.symm.trans e))
      have HYe : Hid (x = a → y = b → es[k]? = some (a, b)) := fun e1 e2 => by rw [he, e1, e2]
      clear hc he h1
      subst e0
      by_cases e1 : x = a
      · have d1 : ((x : Int) == (a : Int)) = true := by rw [beq_iff_eq]; omega
        by_cases e2 : y = b
        · have d2 : ((y : Int) == (b : Int)) = true := by rw [beq_iff_eq]; omega
          have HR := Lib.hid (fdV_hit (by have := Hhn.out; omega) HhP.out (HYe.out e1 e2))
          clear e1 e2
          go_wp2_with fail
          go_ret
          exact ⟨retI HR.out, by trivial⟩
        · have d2 : ((y : Int) == (b : Int)) = false := by rw [beq_eq_false_iff_ne]; omega
          have HR := Lib.hid (HNo.out (fun e => e2 (congrArg Prod.snd e)))
          clear e1 e2
          go_wp2_with fail
          go_roundw
          case rel => exact ⟨by trivial, k + 1, by omega, by go_num, all_succ HhP.out HR.out⟩
          case measure => simp [intOf]; omega
      · have d1 : ((x : Int) == (a : Int)) = false := by rw [beq_eq_false_iff_ne]; omega
        have HR := Lib.hid (HNo.out (fun e => e1 (congrArg Prod.fst e)))
        clear e1
        go_wp2_with fail
        go_roundw
        case rel => exact ⟨by trivial, k + 1, by omega, by go_num, all_succ HhP.out HR.out⟩
        case measure => simp [intOf]; omega
    · have HR := Lib.hid (fdV_never (p := (a, b)) (es := es) (fun j h => HhP.out j (by have := Hhn.out; omega)))
      go_wp2_with fail
      go_ret
      exact ⟨retI HR.out, by trivial⟩

end Go.Proofs.YtfkehmpckhmkbaaGreat
