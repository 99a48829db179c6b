/-
  FormatArcs of both sides. For at most 2^20 arcs.
-/
import Derived.Test.YtfkehmpckhmkbaaDoorPkCardArcs39
import Derived.Test.YtfkehmpckhmkbaaDoorPkCardArcs25
import Derived.StillTailTactics
namespace Go.Proofs.YtfkehmpckhmkbaaDoor
open Go.RowKit

theorem isArcsB_facts {c : Int} {f l : List Int} (h : isArcsB c f l = true) : 3 ≤ c ∧ c ≤ 30 ∧ 1 ≤ f.length ∧ f.length ≤ 7 ∧ l.length = f.length ∧
    ∀ j, j < f.length → (0 ≤ gi f j ∧ gi f j ≤ c - 1) ∧ 1 ≤ gi l j ∧ gi l j ≤ c - 1 := by
  unfold isArcsB at h
  simp only [decide_eq_true_eq] at h
  obtain ⟨a, b, d, e, g, h⟩ := h
  refine ⟨a, b, d, e, g, fun j hj => ?_⟩
  have := h j hj
  unfold arcOk at this
  rw [IntWalk.wrap64_in (c - 1) ⟨by omega, by omega⟩] at this
  simpa using this
theorem numS_size (k : Nat) : (numS k).size ≤ 2 := by unfold numS; split <;> (show Array.size _ ≤ 2; simp)
def arcStr (c : Int) (f l : List Int) : Nat → ByteArray
  | 0 => numS c.toNat ++ ⟨#[58]⟩
  | k + 1 => (((arcStr c f l k ++ ⟨#[32]⟩) ++ numS (gi f k).toNat) ++ ⟨#[43]⟩) ++ numS (gi l k).toNat
theorem arcStr_size (c : Int) (f l : List Int) : ∀ k, (arcStr c f l k).size ≤ 3 + 6 * k
  | 0 => by
    have := numS_size c.toNat
    have e : (arcStr c f l 0).size = (numS c.toNat).size + 1 := by unfold arcStr; rw [ByteArray.size_append]; rfl
    omega
  | k + 1 => by
    have h1 := arcStr_size c f l k
    have h2 := numS_size (gi f k).toNat
    have h3 := numS_size (gi l k).toNat
    have e : (arcStr c f l (k + 1)).size = (arcStr c f l k).size + 1 + (numS (gi f k).toNat).size + 1 + (numS (gi l k).toNat).size := by
      show ((((arcStr c f l k ++ ⟨#[32]⟩) ++ numS (gi f k).toNat) ++ ⟨#[43]⟩) ++ numS (gi l k).toNat).size = _
      rw [ByteArray.size_append, ByteArray.size_append, ByteArray.size_append, ByteArray.size_append]; rfl
    omega
theorem arcStr_next (c : Int) (f l : List Int) (k : Nat) : arcStr c f l (k + 1) = arcStr c f l k ++ (((⟨#[32]⟩ ++ numS (gi f k).toNat) ++ ⟨#[43]⟩) ++ numS (gi l k).toNat) := by
  show (((arcStr c f l k ++ ⟨#[32]⟩) ++ numS (gi f k).toNat) ++ ⟨#[43]⟩) ++ numS (gi l k).toNat = _
  simp only [ByteArray.append_assoc]
def fmtArcs (c : Int) (f l : List Int) : ByteArray := if isArcsB c f l = true then arcStr c f l f.length else ⟨#[]⟩
theorem fmtArcs_no {c : Int} {f l : List Int} (h : isArcsB c f l = false) : fmtArcs c f l = ⟨#[]⟩ := by unfold fmtArcs; rw [if_neg (by rw [h]; decide)]
theorem fmtArcs_of {c : Int} {f l : List Int} (h : isArcsB c f l = true) : fmtArcs c f l = arcStr c f l f.length := by unfold fmtArcs; rw [if_pos h]

set_option maxRecDepth 100000 in
set_option maxHeartbeats 2000000 in
theorem specFmtArcs_any (c : Int) (f l : List Int) (fa la : Option Addr) (fc lc : Nat) (w : World) (hf : IntsAt w fa f) (hl : IntsAt w la l) (hfl : f.length ≤ 1048576) (hll : l.length ≤ 1048576) :
    Calls Tryd.prog 13 #[.agg #[.int .i64 c, .slice fa f.length fc, .slice la l.length lc]] w fun e w' => e = .returned (.string (fmtArcs c f l)) ∧ Below w.heap.size w w' := by
  go_enter Tryd.func13, Tryd.ntmps13
  go_wp2_with fail
  generalize hW : w.alloc _ = W1
  obtain ⟨hB, -, k0⟩ := alloc1 hW
  replace hf := hf.below hB
  replace hl := hl.below hB
  have hb0 := k0.lt
  have hc0 := k0.cell 0
  have hc1 := k0.cell 1
  have hc2 := k0.cell 2
  simp at hc0 hc1 hc2
  clear hW k0
  have HhB := Lib.hid hB
  clear hB
  obtain ⟨m, hm0⟩ : ∃ m : Later W1, m.w = W1 := ⟨Later.refl _, rfl⟩
  refine (fun h => hm0 ▸ h) ?_
  clear hm0
  have hG := fun m : Later W1 => specIsArcs_any c f l fa la fc lc m.w (hf.later m) (hl.later m) hfl hll
  cases hv : isArcsB c f l
  · have HE := Lib.hid (fmtArcs_no hv)
    rw [hv] at hG
    go_wp2_with (first | (go_at_call 31; refine (Calls.later m (hG _)).mono ?_; rintro e w' ⟨rfl, m, rfl⟩))
    go_ret
    exact ⟨by rw [HE.out]; rfl, below_later HhB.out m⟩
  · have HE := Lib.hid (fmtArcs_of hv)
    rw [hv] at hG
    obtain ⟨h3, h30, h1, h7, h5, h6⟩ := isArcsB_facts hv
    obtain ⟨C, rfl⟩ : ∃ C : Nat, c = C := ⟨c.toNat, by omega⟩
    have hlf : f.length ≤ l.length := by omega
    have hl7 : l.length ≤ 7 := by omega
    have H6 := Lib.hid h6
    have H0 : Hid (arcStr C f l 0 = numS C ++ ⟨#[58]⟩) := rfl
    have hN := fun (k : Nat) (hk : k < 100) (w : World) => fmt_any k hk w
    have hC := fun m : Later W1 => fmt_any C (by omega) m.w
    clear hv h6 h5
    have hs0 := numS_size C
    go_wp2_with (first | (go_at_call 31; refine (Calls.later m (hG _)).mono ?_; rintro e w' ⟨rfl, m, rfl⟩) | (go_at_call 36; refine (Calls.later m (hC _)).mono ?_; rintro e w' ⟨rfl, m, rfl⟩))
    clear hG hC
    go_loopw [3, 4] (fun s i wr => (∃ m : Later W1, wr = m.w) ∧ ∃ k : Nat, k ≤ f.length ∧ i = .int .i64 k ∧ s = .string (arcStr C f l k)) (fun _ i _ => f.length - (intOf i).toNat)
    case atStart => exact ⟨⟨m, rfl⟩, 0, by omega, rfl, by rw [H0.out]⟩
    case round =>
      obtain ⟨⟨m, rfl⟩, k, hk, rfl, rfl⟩ := hrel
      by_cases hlt : k < f.length
      · obtain ⟨h8, h9⟩ := H6.out k hlt
        obtain ⟨fb, fo, rfl, hfb, hfc⟩ := hf (by omega)
        obtain ⟨lb, lo, rfl, hlb, hlc⟩ := hl (by omega)
        have x0 := hfc k hlt
        have x1 := hlc k (by omega)
        have hsz := arcStr_size C f l k
        have HS : Hid (arcStr C f l (k + 1) = (((arcStr C f l k ++ ⟨#[32]⟩) ++ numS (gi f k).toNat) ++ ⟨#[43]⟩) ++ numS (gi l k).toNat) := rfl
        clear hfc hlc
        obtain ⟨F, hF⟩ : ∃ F : Nat, gi f k = F := ⟨(gi f k).toNat, by omega⟩
        obtain ⟨G, hGg⟩ : ∃ G : Nat, gi l k = G := ⟨(gi l k).toNat, by omega⟩
        rw [hF] at x0 HS h8
        rw [hGg] at x1 HS h9
        rw [Int.toNat_natCast, Int.toNat_natCast] at HS
        clear hF hGg
        have hkl : k < l.length := by omega
        have hF1 := fun m : Later W1 => fmt_any F (by omega) m.w
        have hG1 := fun m : Later W1 => fmt_any G (by omega) m.w
        have hs1 := numS_size F
        have hs2 := numS_size G
        generalize arcStr C f l k = S at *
        generalize hsf : numS F = SF at *
        generalize hsg : numS G = SG at *
        have Hhsf := Lib.hid hsf
        clear hsf
        have Hhsg := Lib.hid hsg
        clear hsg
        go_wp2_with fail
        refine wp_region_later m rfl (by kernel_rfl) (by kernel_rfl) ?_
        repeat (go_big_quiet_step ((first | (go_at_call 36; with_reducible exact Calls.later _ (hF1 _)) | (go_at_call 36; with_reducible exact Calls.later _ (hG1 _)))))
        refine wpQuiet_nil ?_
        rintro _ ⟨m, rfl⟩
        go_wp2_with fail
        go_roundw
        case rel => exact ⟨⟨m, rfl⟩, k + 1, by omega, by go_num, by rw [HS.out]⟩
        case measure => simp [intOf]; omega
      · obtain rfl : k = f.length := by omega
        go_wp2_with fail
        go_ret
        exact ⟨by rw [HE.out]; rfl, below_later HhB.out m⟩

set_option maxRecDepth 100000 in
set_option maxHeartbeats 2000000 in
theorem implFmtArcs_any (c : Int) (f l : List Int) (fa la : Option Addr) (fc lc : Nat) (w : World) (hf : IntsAt w fa f) (hl : IntsAt w la l) (hfl : f.length ≤ 1048576) (hll : l.length ≤ 1048576) :
    Calls Tryd.prog 12 #[.agg #[.int .i64 c, .slice fa f.length fc, .slice la l.length lc]] w fun e w' => e = .returned (.string (fmtArcs c f l)) ∧ Below w.heap.size w w' := by
  go_enter Tryd.func12, Tryd.ntmps12
  go_wp2_with fail
  generalize hW : w.alloc _ = W1
  obtain ⟨hB, -, k0⟩ := alloc1 hW
  replace hf := hf.below hB
  replace hl := hl.below hB
  have hb0 := k0.lt
  have hc0 := k0.cell 0
  have hc1 := k0.cell 1
  have hc2 := k0.cell 2
  simp at hc0 hc1 hc2
  clear hW k0
  have HhB := Lib.hid hB
  clear hB
  obtain ⟨m, hm0⟩ : ∃ m : Later W1, m.w = W1 := ⟨Later.refl _, rfl⟩
  refine (fun h => hm0 ▸ h) ?_
  clear hm0
  have hG := fun m : Later W1 => implIsArcs_any c f l fa la fc lc m.w (hf.later m) (hl.later m) hfl hll
  cases hv : isArcsB c f l
  · have HE := Lib.hid (fmtArcs_no hv)
    rw [hv] at hG
    go_wp2_with (first | (go_at_call 11; refine (Calls.later m (hG _)).mono ?_; rintro e w' ⟨rfl, m, rfl⟩))
    go_ret
    exact ⟨by rw [HE.out]; rfl, below_later HhB.out m⟩
  · have HE := Lib.hid (fmtArcs_of hv)
    rw [hv] at hG
    obtain ⟨h3, h30, h1, h7, h5, h6⟩ := isArcsB_facts hv
    obtain ⟨C, rfl⟩ : ∃ C : Nat, c = C := ⟨c.toNat, by omega⟩
    have hlf : f.length ≤ l.length := by omega
    have hl7 : l.length ≤ 7 := by omega
    have H6 := Lib.hid h6
    have H0 : Hid (arcStr C f l 0 = numS C ++ ⟨#[58]⟩) := rfl
    have hN := fun (k : Nat) (hk : k < 100) (w : World) => itoa_any k hk w
    have hC := fun w : World => itoa_any C (by omega) w
    clear hv h6 h5
    have hs0 := numS_size C
    go_wp2_with (first | (go_at_call 11; refine (Calls.later m (hG _)).mono ?_; rintro e w' ⟨rfl, m, rfl⟩) | (go_at_call 35; refine (hC _).mono ?_; rintro e w' ⟨rfl, rfl⟩))
    clear hG hC
    go_loopw [3, 16] (fun s i wr => (∃ m : Later W1, wr = m.w) ∧ ∃ k : Nat, k ≤ f.length ∧ i = .int .i64 k ∧ s = .string (arcStr C f l k)) (fun _ i _ => f.length - (intOf i).toNat)
    case atStart => exact ⟨⟨m, rfl⟩, 0, by omega, rfl, by rw [H0.out]⟩
    case round =>
      obtain ⟨⟨m, rfl⟩, k, hk, rfl, rfl⟩ := hrel
      by_cases hlt : k < f.length
      · obtain ⟨h8, h9⟩ := H6.out k hlt
        obtain ⟨fb, fo, rfl, hfb, hfc⟩ := hf (by omega)
        obtain ⟨lb, lo, rfl, hlb, hlc⟩ := hl (by omega)
        have x0 := hfc k hlt
        have x1 := hlc k (by omega)
        have hsz := arcStr_size C f l k
        have HS := Lib.hid (arcStr_next C f l k)
        clear hfc hlc
        obtain ⟨F, hF⟩ : ∃ F : Nat, gi f k = F := ⟨(gi f k).toNat, by omega⟩
        obtain ⟨G, hGg⟩ : ∃ G : Nat, gi l k = G := ⟨(gi l k).toNat, by omega⟩
        rw [hF] at x0 HS h8
        rw [hGg] at x1 HS h9
        rw [Int.toNat_natCast, Int.toNat_natCast] at HS
        clear hF hGg
        have hkl : k < l.length := by omega
        have hF1 := fun m : Later W1 => itoa_any F (by omega) m.w
        have hG1 := fun m : Later W1 => itoa_any G (by omega) m.w
        have hs1 := numS_size F
        have hs2 := numS_size G
        generalize arcStr C f l k = S at *
        generalize hsf : numS F = SF at *
        generalize hsg : numS G = SG at *
        have Hhsf := Lib.hid hsf
        clear hsf
        have Hhsg := Lib.hid hsg
        clear hsg
        go_wp2_with fail
        refine wp_region_later m rfl (by kernel_rfl) (by kernel_rfl) ?_
        repeat (go_big_quiet_step ((first | (go_at_call 35; with_reducible exact Calls.later_same _ (hF1 _)) | (go_at_call 35; with_reducible exact Calls.later_same _ (hG1 _)))))
        refine wpQuiet_nil ?_
        rintro _ ⟨m, rfl⟩
        go_wp2_with fail
        go_roundw
        case rel => exact ⟨⟨m, rfl⟩, k + 1, by omega, by go_num, by rw [HS.out]⟩
        case measure => simp [intOf]; omega
      · obtain rfl : k = f.length := by omega
        go_wp2_with fail
        go_ret
        exact ⟨by rw [HE.out]; rfl, below_later HhB.out m⟩

end Go.Proofs.YtfkehmpckhmkbaaDoor
