/-
  EdgesOf on both sides, for every graph of at most 2^20 rows.
-/
import Derived.Test.YtgklgheaojoimaaEdges
import Derived.Test.YtgklgheaojoimaaDistinct
namespace Go.Proofs.Ytgklgheaojoimaa
open Go.RowKit

def edgesV (n : Int) (rs : List Int) : List (Nat × Nat) := if isGraphB n rs = true then edgesTo rs rs.length else []
theorem edgesV_no {n : Int} {rs : List Int} (h : isGraphB n rs = false) : edgesV n rs = [] := by unfold edgesV; rw [if_neg (by rw [h]; decide)]
theorem edgesV_of {n : Int} {rs : List Int} (h : isGraphB n rs = true) : edgesV n rs = edgesTo rs rs.length := by unfold edgesV; rw [if_pos h]

/-- A list of pairs has been made, each in a block of its own. -/
def RetEs (w : World) (es : List (Nat × Nat)) (e : Ending) (w' : World) : Prop :=
  ∃ ao cap xs, e = .returned (.slice ao xs.length cap) ∧ Below w.heap.size w w' ∧ OwnV w' w.heap.size (.slice ao xs.length cap) xs ∧ ValsOf w' xs es

set_option maxRecDepth 100000 in
set_option maxHeartbeats 2000000 in
theorem implEdges_all (n : Int) (rs : List Int) (ro : Option Addr) (rc : Nat) (w : World) (hr : IntsAt w ro rs) (hrl : rs.length ≤ 1048576) :
    Calls Try.prog 88 #[.agg #[.int .i64 n, .slice ro rs.length rc]] w (RetEs w (edgesV n rs)) := by
  cases hv : isGraphB n rs
  · have HE := Lib.hid (edgesV_no hv)
    go_enter Try.func88, Try.ntmps88
    go_wp2_with fail
    generalize hW : w.alloc _ = W1
    have hsz : W1.heap.size = w.heap.size + 1 := by rw [← hW]; simp
    obtain ⟨hB, -, k0⟩ := alloc1 hW
    replace hr := hr.below hB
    have hb0 := k0.lt
    have hc0 := k0.cell 0
    have hc1 := k0.cell 1
    simp at hc0 hc1
    clear hW k0
    have HhB := Lib.hid hB
    clear hB
    generalize hW2 : W1.alloc _ = W2
    obtain ⟨hB2, -, -⟩ := alloc1 hW2
    have hO : OwnV W2 W1.heap.size (.slice (some ⟨W1.heap.size, 0, none⟩) 0 0) [] := by rw [← hW2]; exact OwnV.empty W1
    obtain ⟨m, rfl⟩ : ∃ m2 : Later W1, m2.w = W2 := ⟨⟨W2, hB2⟩, rfl⟩
    have hadr : Value.slice (some ⟨W1.heap.size, 0, none⟩) 0 0 = .slice (some ⟨w.heap.size + 1, 0, none⟩) 0 0 := by rw [hsz]
    rw [hadr] at hO
    clear hsz hadr
    clear hB2 hW2
    have hG := implIsGraph_any n rs ro rc m.w (hr.later m) hrl
    rw [hv] at hG
    have HhO := Lib.hid hO
    clear hO
    go_wp2_with fail
    refine hG.mono ?_
    rintro e w' ⟨rfl, hB3⟩
    have hO := HhO.out.below hB3
    obtain ⟨m, rfl⟩ : ∃ m2 : Later W1, m2.w = w' := ⟨m.on hB3, rfl⟩
    clear hB3 HhO hG
    have HhO := Lib.hid hO
    clear hO
    go_wp2_with fail
    go_ret
    exact ⟨_, _, [], rfl, below_later HhB.out m, HhO.out.mono (Nat.le_of_lt hb0), by rw [HE.out]; exact ValsOf.nil _⟩
  · obtain ⟨rfl, -⟩ := VG.of hv
    rw [edgesV_of hv]
    exact implEdgesOf_any rs ro rc hv w hr

set_option maxRecDepth 100000 in
set_option maxHeartbeats 4000000 in
theorem specEdges_all (n : Int) (rs : List Int) (ro : Option Addr) (rc : Nat) (w : World) (hr : IntsAt w ro rs) (hrl : rs.length ≤ 1048576) :
    Calls Try.prog 91 #[.agg #[.int .i64 n, .slice ro rs.length rc]] w (RetEs w (edgesV n rs)) := by
  go_enter Try.func91, Try.ntmps91
  go_wp2_with fail
  generalize hW : w.alloc _ = W1
  have hsz : W1.heap.size = w.heap.size + 1 := by rw [← hW]; simp
  obtain ⟨hB, -, k0⟩ := alloc1 hW
  replace hr := hr.below hB
  have hb0 := k0.lt
  have hc0 := k0.cell 0
  have hc1 := k0.cell 1
  simp at hc0 hc1
  clear hW k0
  have HhB := Lib.hid hB
  clear hB
  generalize hW2 : W1.alloc _ = W2
  obtain ⟨hB2, -, -⟩ := alloc1 hW2
  have hO : OwnV W2 W1.heap.size (.slice (some ⟨W1.heap.size, 0, none⟩) 0 0) [] := by rw [← hW2]; exact OwnV.empty W1
  obtain ⟨m, rfl⟩ : ∃ m2 : Later W1, m2.w = W2 := ⟨⟨W2, hB2⟩, rfl⟩
  have hadr : Value.slice (some ⟨W1.heap.size, 0, none⟩) 0 0 = .slice (some ⟨w.heap.size + 1, 0, none⟩) 0 0 := by rw [hsz]
  rw [hadr] at hO
  clear hsz hadr
  clear hB2 hW2
  have hG := fun m : Later W1 => specIsGraph_any n rs ro rc m.w (hr.later m) hrl
  cases hv : isGraphB n rs
  · have HE := Lib.hid (edgesV_no hv)
    rw [hv] at hG
    have HhO := Lib.hid hO
    clear hO
    go_loopw [3, 4] (fun o i wr => (∃ m : Later W1, wr = m.w) ∧ i = .int .i64 0 ∧ ∃ ao cap, o = .slice ao 0 cap ∧ OwnV wr W1.heap.size (.slice ao 0 cap) []) (fun _ _ _ => 0)
    case atStart => exact ⟨⟨m, rfl⟩, rfl, _, _, rfl, HhO.out⟩
    case round =>
      clear HhO
      obtain ⟨⟨m, rfl⟩, rfl, ao, cap, rfl, hO⟩ := hrel
      by_cases h0 : 0 < n
      · have d0 : decide ((0 : Int) < n) = true := decide_eq_true h0
        have HhO := Lib.hid hO
        clear hO
        go_wp2_with fail
        refine (hG m).mono ?_
        rintro e w' ⟨rfl, hB3⟩
        have hO := HhO.out.below hB3
        obtain ⟨m, rfl⟩ : ∃ m2 : Later W1, m2.w = w' := ⟨m.on hB3, rfl⟩
        clear hB3 HhO hG
        have HhO := Lib.hid hO
        clear hO
        go_wp2_with fail
        go_ret
        exact ⟨_, _, [], rfl, below_later HhB.out m, HhO.out.mono (Nat.le_of_lt hb0), by rw [HE.out]; exact ValsOf.nil _⟩
      · have d0 : decide ((0 : Int) < n) = false := decide_eq_false h0
        have HhO := Lib.hid hO
        clear hO
        go_wp2_with fail
        go_ret
        exact ⟨_, _, [], rfl, below_later HhB.out m, HhO.out.mono (Nat.le_of_lt hb0), by rw [HE.out]; exact ValsOf.nil _⟩
  obtain ⟨rfl, g⟩ := VG.of hv
  have HE := Lib.hid (edgesV_of hv)
  rw [hv] at hG
  have hg1 := g.pos
  have hg2 := g.le
  go_loopw [3, 4] (fun o i wr => (∃ m : Later W1, wr = m.w) ∧ ∃ k : Nat, k ≤ rs.length ∧ i = .int .i64 k ∧ ∃ ao cap xs, o = .slice ao xs.length cap ∧ OwnV wr W1.heap.size (.slice ao xs.length cap) xs ∧ ValsOf wr xs (edgesTo rs k)) (fun _ i _ => rs.length - (intOf i).toNat)
  case atStart => exact ⟨⟨m, rfl⟩, 0, by omega, rfl, _, _, [], rfl, hO, ValsOf.nil _⟩
  case round =>
    obtain ⟨⟨m, rfl⟩, k, hk, rfl, ao, cap, xs, rfl, hO, hV⟩ := hrel
    by_cases hlt : k < rs.length
    · have hEl := edgesTo_len rs k
      have hkk : k * rs.length ≤ 49 := Nat.le_trans (Nat.mul_le_mul hk (Nat.le_refl _)) (Nat.mul_le_mul hg2 hg2)
      have HEl := Lib.hid (Nat.le_trans hEl hkk)
      clear hEl hkk
      have HES : Hid (edgesTo rs (k + 1) = edgesTo rs k ++ edgesIn rs k (rs.length - (k + 1))) := rfl
      generalize edgesTo rs k = E at *
      have HhO := Lib.hid hO
      clear hO
      have HhV := Lib.hid hV
      clear hV
      go_wp2_with fail
      refine (hG m).mono ?_
      rintro e w' ⟨rfl, hB3⟩
      have hO := HhO.out.below hB3
      have hV := HhV.out.below hB3
      obtain ⟨m, rfl⟩ : ∃ m2 : Later W1, m2.w = w' := ⟨m.on hB3, rfl⟩
      clear hB3 HhO HhV
      have HhO := Lib.hid hO
      clear hO
      have HhV := Lib.hid hV
      clear hV
      go_wp2_with fail
      go_loopw [3, 5] (fun o i wr => (∃ m : Later W1, wr = m.w) ∧ ∃ c : Nat, k + 1 + c ≤ rs.length ∧ i = .int .i64 (k + 1 + c : Nat) ∧ ∃ ao cap xs, o = .slice ao xs.length cap ∧ OwnV wr W1.heap.size (.slice ao xs.length cap) xs ∧ ValsOf wr xs (E ++ edgesIn rs k c)) (fun _ i _ => rs.length - (intOf i).toNat)
      case atStart => exact ⟨⟨m, rfl⟩, 0, by omega, by go_num, ao, cap, xs, rfl, HhO.out, by show ValsOf _ _ (E ++ []); rw [List.append_nil]; exact HhV.out⟩
      case round =>
        obtain ⟨⟨m, rfl⟩, c, hc, rfl, ao, cap, xs, rfl, hO, hV⟩ := hrel
        have hEl := edgesIn_len rs k c
        have hxl := hV.1
        rw [List.length_append] at hxl
        have hx56 : xs.length ≤ 1048576 := by have := HEl.out; omega
        clear hxl hEl
        have hms := m.size
        have HhO := Lib.hid hO
        clear hO
        have HhV := Lib.hid hV
        clear hV
        by_cases hct : k + 1 + c < rs.length
        · have hH := fun m : Later W1 => l2Edge_any rs k (k + 1 + c) ro rc m.w (hr.later m) g hlt hct
          have HI : Hid (E ++ edgesIn rs k (c + 1) = (E ++ edgesIn rs k c) ++ (if (gn rs k).testBit (k + 1 + c) = true then [(k, k + 1 + c)] else [])) := Lib.hid (by rw [List.append_assoc]; rfl)
          have hq : ((k + 1 + c : Nat) : Int) + 1 = ((k + 1 + (c + 1) : Nat) : Int) := by omega
          cases hb : (gn rs k).testBit (k + 1 + c)
          all_goals
            rw [hb] at hH HI
            go_wp2_with fail
            refine (hH m).mono ?_
            rintro e w' ⟨rfl, hB3⟩
            have hO := HhO.out.below hB3
            have hV := HhV.out.below hB3
            obtain ⟨m, rfl⟩ : ∃ m2 : Later W1, m2.w = w' := ⟨m.on hB3, rfl⟩
            clear hB3 HhO HhV hH hms
            have hms := m.size
            have HhO := Lib.hid hO
            clear hO
            have HhV := Lib.hid hV
            clear hV
          · go_wp2_with fail
            go_roundw
            case rel => exact ⟨⟨m, rfl⟩, c + 1, by omega, by go_num, ao, cap, xs, rfl, HhO.out, by rw [HI.out]; simpa using HhV.out⟩
            case measure => simp [intOf]; omega
          · go_wp2_with (first | (at_builtin; go_must (refine wpList_append_row rfl _ _ rfl W1.heap.size (.slice ao xs.length cap) xs (.slice (some ⟨m.w.heap.size, 0, none⟩) 2 2) rfl rfl (HhO.out.alloc _) (by show Value.slice (some ⟨m.w.heap.size + 1, 0, none⟩) 1 1 = _; simp) (by simp; omega) hx56 ?_); intro ao1 cap1 w1 hown1 hB1 hG1))
            have hC : (m.w.alloc (.cells #[.int .i64 k, .int .i64 ((k : Int) + 1 + c)] 3)).heap[m.w.heap.size]? = some (.cells #[.int .i64 k, .int .i64 ((k + 1 + c : Nat) : Int)] 3) := by rw [heap_alloc_new]; simp
            have hV1 := ((HhV.out.below ((Below.refl _ _).alloc (Nat.le_refl _) _)).push hC).below ((Below.refl _ _).alloc (Nat.le_refl _) (.cells #[.slice (some ⟨m.w.heap.size, 0, none⟩) 2 2] 24))
            have hV2 := hV1.grown ((HhO.out.alloc _).alloc _) hG1
            have hBm : Below W1.heap.size m.w w1 := ((Below.refl _ _).alloc hms _).trans hB1
            obtain ⟨m, rfl⟩ : ∃ m2 : Later W1, m2.w = w1 := ⟨⟨w1, m.below.trans hBm⟩, rfl⟩
            go_roundw
            case rel => exact ⟨⟨m, rfl⟩, c + 1, by omega, by go_num, ao1, cap1, xs ++ [_], by rw [List.length_append]; rfl, by rw [List.length_append]; exact hown1, by rw [HI.out]; exact hV2⟩
            case measure => simp [intOf]; omega
        · go_wp2_with fail
          go_roundw
          case rel => exact ⟨⟨m, rfl⟩, k + 1, by omega, by go_num, ao, cap, xs, rfl, HhO.out, by rw [HES.out, show rs.length - (k + 1) = c by omega]; exact HhV.out⟩
          case measure => simp [intOf]; omega
    · obtain rfl : k = rs.length := by omega
      have HhO := Lib.hid hO
      clear hO
      have HhV := Lib.hid hV
      clear hV
      go_wp2_with fail
      go_ret
      exact ⟨ao, cap, xs, rfl, below_later HhB.out m, HhO.out.mono (Nat.le_of_lt hb0), by rw [HE.out]; exact HhV.out⟩

end Go.Proofs.Ytgklgheaojoimaa
