/-
  Umbrella orders of the reference: l12Umbrella, l12Search, UmbrellaOf, IsProper: true only with such an order. For at most 2^20 rows.
-/
import Derived.Test.YtfkehmpckhmkbaaPkLawWidths34
import Derived.Test.YtfkehmpckhmkbaaPkLawWidths27
import Derived.Test.YtfkehmpckhmkbaaPkLawWidths13
import Derived.Test.YtfkehmpckhmkbaaPkLawWidths07
import Derived.Deep.RegionHeld3
import Derived.Deep.CutRange
namespace Go.Proofs.Ytfkehmpckhmkbaa
open Go.RowKit

/-- Neighbours have what lies between them as neighbours. -/
def umbAt (rs : List Int) (t : List Nat) (i k j : Nat) : Bool := !eb rs (eln t i) (eln t k) || (eb rs (eln t i) (eln t j) && eb rs (eln t j) (eln t k))
def umbP (rs : List Int) (t : List Nat) : Prop := ∀ i j k, i < j → j < k → k < t.length → umbAt rs t i k j = true

set_option maxRecDepth 100000 in
set_option maxHeartbeats 4000000 in
theorem l12Umbrella_any (rs : List Int) (t : List Nat) (ro lo : Option Addr) (rc lc : Nat) (w : World) (hr : IntsAt w ro rs) (g : VG rs) (hl : IntsAt w lo (t.map Int.ofNat)) (ht : ∀ x ∈ t, x < rs.length) (hn : t.length ≤ 1048576) :
    Calls Try.prog 94 #[.agg #[.int .i64 rs.length, .slice ro rs.length rc], .slice lo t.length lc] w fun e w' => ∃ b : Bool, e = .returned (.bool b) ∧ Below w.heap.size w w' ∧ (b = true → umbP rs t) := by
  go_enter Try.func94, Try.ntmps94
  go_wp2_with fail
  generalize hW : w.alloc _ = W1
  obtain ⟨hB, -, k0⟩ := alloc1 hW
  replace hr := hr.below hB
  replace hl := hl.below hB
  have hb0 := k0.lt
  have hc0 := k0.cell 0
  have hc1 := k0.cell 1
  simp at hc0 hc1
  clear hW k0
  have HhB := Lib.hid hB
  clear hB
  go_loopw [5] (fun i wr => (∃ m : Later W1, wr = m.w) ∧ ∃ a : Nat, a ≤ t.length ∧ i = .int .i64 a ∧ ∀ i, i < a → ∀ j k, i < j → j < k → k < t.length → umbAt rs t i k j = true) (fun i _ => t.length - (intOf i).toNat)
  case atStart => exact ⟨⟨Later.refl _, rfl⟩, 0, by omega, rfl, fun i h => by omega⟩
  case round =>
    obtain ⟨⟨m, rfl⟩, a, ha, rfl, hA⟩ := hrel
    have HhA := Lib.hid hA
    clear hA
    by_cases hat : a < t.length
    · go_wp2_with fail
      go_loopw [6] (fun i wr => (∃ m : Later W1, wr = m.w) ∧ ∃ d : Nat, a + 2 ≤ d ∧ d ≤ t.length + 2 ∧ i = .int .i64 d ∧ ∀ k, k < d → ∀ j, a < j → j < k → k < t.length → umbAt rs t a k j = true) (fun i _ => t.length + 2 - (intOf i).toNat)
      case atStart => exact ⟨⟨m, rfl⟩, a + 2, by omega, by omega, by go_num, fun k hk j h1 h2 => by omega⟩
      case round =>
        obtain ⟨⟨m, rfl⟩, d, hd1, hd2, rfl, hD⟩ := hrel
        have HhD := Lib.hid hD
        clear hD
        by_cases hdt : d < t.length
        · go_wp2_with fail
          go_loopw [7] (fun i wr => (∃ m : Later W1, wr = m.w) ∧ ∃ c : Nat, a + 1 ≤ c ∧ c ≤ d ∧ i = .int .i64 c ∧ ∀ j, a < j → j < c → umbAt rs t a d j = true) (fun i _ => d - (intOf i).toNat)
          case atStart => exact ⟨⟨m, rfl⟩, a + 1, by omega, by omega, by go_num, fun j h1 h2 => by omega⟩
          case round =>
            obtain ⟨⟨m, rfl⟩, c, hc1, hc2, rfl, hC⟩ := hrel
            have HhC := Lib.hid hC
            clear hC
            by_cases hcd : c < d
            · obtain ⟨lb, lofs, rfl, hlb, hlc⟩ := hl (by rw [List.length_map]; omega)
              have za := hlc a (by rw [List.length_map]; omega)
              have zc := hlc c (by rw [List.length_map]; omega)
              have zd := hlc d (by rw [List.length_map]; omega)
              rw [gi_map t a hat] at za
              rw [gi_map t c (by omega)] at zc
              rw [gi_map t d hdt] at zd
              have hct : c < t.length := by omega
              have ea := ht _ (eln_mem hat)
              have ec := ht _ (eln_mem hct)
              have ed := ht _ (eln_mem hdt)
              have HU : Hid (umbAt rs t a d c = (!(gn rs (eln t a)).testBit (eln t d) || ((gn rs (eln t a)).testBit (eln t c) && (gn rs (eln t c)).testBit (eln t d)))) := rfl
              have hE1 := fun m : Later W1 => l2Edge_any rs (eln t a) (eln t d) ro rc m.w (hr.later m) g ea ed
              have hE2 := fun m : Later W1 => l2Edge_any rs (eln t a) (eln t c) ro rc m.w (hr.later m) g ea ec
              have hE3 := fun m : Later W1 => l2Edge_any rs (eln t c) (eln t d) ro rc m.w (hr.later m) g ec ed
              clear hlc ea ec ed
              generalize (gn rs (eln t a)).testBit (eln t d) = E1 at *
              generalize (gn rs (eln t a)).testBit (eln t c) = E2 at *
              generalize (gn rs (eln t c)).testBit (eln t d) = E3 at *
              generalize eln t a = va at *
              generalize eln t c = vc at *
              generalize eln t d = vd at *
              have hla : a < t.length := hat
              go_upto_region 10 with fail
              cases E1
              · refine wp_region_later m rfl (by kernel_rfl) (by kernel_rfl) ?_
                repeat (go_big_quiet_step ((first | (go_at_call 65; with_reducible exact Calls.later _ (hE1 _)))))
                refine wpQuiet_nil ?_
                rintro _ ⟨m, rfl⟩
                go_wp2_with fail
                go_roundw
                case rel => exact ⟨⟨m, rfl⟩, c + 1, by omega, by omega, by go_num, fun j h1 h2 => by
                  by_cases e : j = c
                  · subst e; rw [HU.out]; rfl
                  · exact HhC.out j h1 (by omega)⟩
                case measure => simp [intOf]; omega
              · cases E2
                · refine wp_region_later m rfl (by kernel_rfl) (by kernel_rfl) ?_
                  repeat (go_big_quiet_step ((first | (go_at_call 65; with_reducible exact Calls.later _ (hE1 _)) | (go_at_call 65; with_reducible exact Calls.later _ (hE2 _)))))
                  refine wpQuiet_nil ?_
                  rintro _ ⟨m, rfl⟩
                  go_wp2_with fail
                  go_ret
                  exact ⟨false, rfl, below_later HhB.out m, fun h => by cases h⟩
                · cases E3
                  all_goals
                    refine wp_region_later m rfl (by kernel_rfl) (by kernel_rfl) ?_
                    repeat (go_big_quiet_step ((first | (go_at_call 65; with_reducible exact Calls.later _ (hE1 _)) | (go_at_call 65; with_reducible exact Calls.later _ (hE2 _)) | (go_at_call 65; with_reducible exact Calls.later _ (hE3 _)))))
                    refine wpQuiet_nil ?_
                    rintro _ ⟨m, rfl⟩
                    go_wp2_with fail
                  · go_ret
                    exact ⟨false, rfl, below_later HhB.out m, fun h => by cases h⟩
                  · go_roundw
                    case rel => exact ⟨⟨m, rfl⟩, c + 1, by omega, by omega, by go_num, fun j h1 h2 => by
                      by_cases e : j = c
                      · subst e; rw [HU.out]; rfl
                      · exact HhC.out j h1 (by omega)⟩
                    case measure => simp [intOf]; omega
            · go_wp2_with fail
              go_roundw
              case rel => exact ⟨⟨m, rfl⟩, d + 1, by omega, by omega, by go_num, fun k hk j h1 h2 h3 => by
                by_cases e : k = d
                · subst e; exact HhC.out j h1 (by omega)
                · exact HhD.out k (by omega) j h1 h2 h3⟩
              case measure => simp [intOf]; omega
        · go_wp2_with fail
          go_roundw
          case rel => exact ⟨⟨m, rfl⟩, a + 1, by omega, by go_num, fun i hi j k h1 h2 h3 => by
            by_cases e : i = a
            · subst e; exact HhD.out k (by omega) j h1 h2 h3
            · exact HhA.out i (by omega) j k h1 h2 h3⟩
          case measure => simp [intOf]; omega
    · go_wp2_with fail
      go_ret
      exact ⟨true, rfl, below_later HhB.out m, fun _ i j k h1 h2 h3 => HhA.out i (by omega) j k h1 h2 h3⟩

/-- What the search hands back: true only where there is an umbrella order. -/
def RetUm (rs : List Int) (w : World) (e : Ending) (w' : World) : Prop :=
  ∃ (y : List Int) (ao : Option Addr) (cap : Nat) (ok : Bool), e = .returned (.tuple #[.slice ao y.length cap, .bool ok]) ∧ Below w.heap.size w w' ∧ (ok = true → ∃ u, UmbO rs u)
theorem umb_all {rs : List Int} {t : List Nat} (hn : t.Nodup) (hl : t.length = rs.length) (ht : ∀ x ∈ t, x < rs.length) (h : umbP rs t) : UmbO rs t :=
  ⟨hl, (fresh_iff t 0).2 ⟨fun x hx => ⟨ht x hx, by simp⟩, hn⟩, fun i j k h1 h2 h3 he => by
    have := h i j k h1 h2 h3
    unfold umbAt at this
    rw [he] at this
    simpa using this⟩

set_option maxRecDepth 100000 in
set_option maxHeartbeats 8000000 in
theorem l12Search_any (rs : List Int) (ro : Option Addr) (rc : Nat) (g : VG rs) : ∀ (f : Nat) (t : List Nat) (l : List Int) (n lc : Nat) (la : Addr) (w : World), l.length + f = rs.length → l = t.map Int.ofNat → n = l.length → IntsAt w ro rs → IntsAt w (some la) l → t.Nodup → (∀ x ∈ t, x < rs.length) → umbP rs t →
    Calls Try.prog 75 #[.agg #[.int .i64 rs.length, .slice ro rs.length rc], .slice (some la) n lc] w (RetUm rs w) := by
  have hg1 := g.pos
  have hg2 := g.le
  intro f
  induction f with
  | zero =>
    intro t l n lc la w hlf hlt hn hr hl hnd ht hu
    subst hn
    have hN : ((l.length : Int) == (rs.length : Int)) = true := by rw [beq_iff_eq]; omega
    have HU := Lib.hid (umb_all hnd (by rw [hlt, List.length_map] at hlf; omega) ht hu)
    clear hlf hlt hnd ht hu
    go_enter Try.func75, Try.ntmps75
    go_wp2_with fail
    generalize hW : w.alloc _ = W1
    obtain ⟨hB, -, k0⟩ := alloc1 hW
    replace hr := hr.below hB
    replace hl := hl.below hB
    have hb0 := k0.lt
    have hc0 := k0.cell 0
    have hc1 := k0.cell 1
    simp at hc0 hc1
    clear hW k0
    have HhB := Lib.hid hB
    clear hB
    go_ret2
    exact ⟨l, some la, lc, true, rfl, HhB.out, fun _ => ⟨t, HU.out⟩⟩
  | succ f ih =>
    intro t l n lc la w hlf hlt hn hr hl hnd ht hu
    subst hn
    have hN : ((l.length : Int) == (rs.length : Int)) = false := by rw [beq_eq_false_iff_ne]; omega
    have hl6 : l.length ≤ 6 := by omega
    have Hih := Lib.hid ih
    clear ih
    have Hhlf := Lib.hid hlf
    clear hlf
    have Hhlt := Lib.hid hlt
    clear hlt
    have Hhnd := Lib.hid hnd
    clear hnd
    have Hht := Lib.hid ht
    clear ht
    have Hhu := Lib.hid hu
    clear hu
    go_enter Try.func75, Try.ntmps75
    go_wp2_with fail
    generalize hW : w.alloc _ = W1
    obtain ⟨hB, -, k0⟩ := alloc1 hW
    replace hr := hr.below hB
    replace hl := hl.below hB
    have hb0 := k0.lt
    have hc0 := k0.cell 0
    have hc1 := k0.cell 1
    simp at hc0 hc1
    clear hW k0
    have HhB := Lib.hid hB
    clear hB
    obtain ⟨m, hm0⟩ : ∃ m : Later W1, m.w = W1 := ⟨Later.refl _, rfl⟩
    refine (fun h => hm0 ▸ h) ?_
    clear hm0
    go_wp2_with fail
    go_loopw [6] (fun i wr => (∃ m : Later W1, wr = m.w) ∧ ∃ j : Nat, j ≤ rs.length ∧ i = .int .i64 j) (fun i _ => rs.length - (intOf i).toNat)
    case atStart => exact ⟨⟨m, rfl⟩, 0, by omega, rfl⟩
    case round =>
      obtain ⟨⟨m, rfl⟩, j, hj, rfl⟩ := hrel
      have hms := m.size
      by_cases hjt : j < rs.length
      · have hx : (l ++ [(j : Int)]).length = l.length + 1 := by simp
        have hH := fun m : Later W1 => l8Has_any l (j : Int) (some la) l.length lc m.w (hl.later m) rfl (by omega)
        have hmap : l ++ [(j : Int)] = (t ++ [j]).map Int.ofNat := by rw [Hhlt.out]; simp
        have htl : (t ++ [j]).length = l.length + 1 := by rw [Hhlt.out]; simp
        have htm : ∀ x ∈ t ++ [j], x < rs.length := fun x hx => by
          rcases List.mem_append.1 hx with h | h
          · exact Hht.out x h
          · rw [List.mem_singleton] at h; omega
        have hU := fun (ao : Option Addr) (c : Nat) (w' : World) (h1 : IntsAt w' ro rs) (h2 : IntsAt w' ao (l ++ [(j : Int)])) => l12Umbrella_any rs (t ++ [j]) ro ao rc c w' h1 g (hmap ▸ h2) htm (by rw [htl]; omega)
        rw [htl] at hU
        have hnot : inB l (j : Int) = false → (t ++ [j]).Nodup := fun h => by
          rw [List.nodup_append]
          refine ⟨Hhnd.out, by simp, fun a ha b hb e => ?_⟩
          rw [List.mem_singleton] at hb
          subst hb
          subst e
          have : inB l (a : Int) = true := by
            rw [inB_true]
            obtain ⟨k, hk, rfl⟩ := mem_eln ha
            exact ⟨k, by rw [Hhlt.out, List.length_map]; exact hk, by rw [Hhlt.out, gi_map t k hk]⟩
          rw [h] at this; cases this
        have hih := fun (n lc : Nat) (la : Addr) (w : World) (h1 : n = (l ++ [(j : Int)]).length) h2 h3 h4 h5 => Hih.out (t ++ [j]) (l ++ [(j : Int)]) n lc la w (by rw [hx]; have := Hhlf.out; omega) hmap h1 h2 h3 h4 htm h5
        rw [hx] at hih
        clear htm hmap
        have Hhx := Lib.hid hx
        clear hx
        have Hhih := Lib.hid hih
        clear hih
        have HhU := Lib.hid hU
        clear hU
        have Hhnot := Lib.hid hnot
        clear hnot
        have Hhtl := Lib.hid htl
        clear htl
        go_upto_region 7 with (at_builtin; first | ((refine wpList_append_cp rfl (.tmp 22) (.tmp 23) rfl m.w.heap.size _ la l lc rfl rfl ((hl.later m).below ((Below.refl _ _).alloc (Nat.le_refl _) _)) (by simp) (by omega) ?_); intro ao1 cap1 w1 hne1 hown1 hBw1; have hsz : m.w.heap.size + 1 ≤ w1.heap.size := by (have := hBw1.size; simp at this; omega)) | ((refine wpList_append_e rfl (.tmp 24) (.tmp 26) rfl m.w.heap.size cap1 ao1 l (j : Int) rfl hown1 rfl (by omega) (by omega) ?_); intro ao2 cap2 w2 hown2 hBw2; obtain ⟨lb2, lo2, rfl, -, -⟩ := hown2.ints (by simp); have hB2 : Below m.w.heap.size m.w w2 := ((((Below.refl _ _).alloc (Nat.le_refl _) _).trans (hBw1.mono (by simp))).trans hBw2); obtain ⟨m2, hm2⟩ : ∃ m2 : Later W1, m2.w = w2 := ⟨m.on hB2, rfl⟩; subst hm2))
        have hI2 := hown2.ints
        clear hown1 hown2 hBw1 hBw2 hsz hne1 hB2
        have hH2 := hH m2
        clear hH
        cases hin : inB l (j : Int)
        · rw [hin] at hH2
          have Hnd := Lib.hid (Hhnot.out hin)
          clear hin
          go_wp2_with fail
          refine hH2.mono ?_
          rintro e w3 ⟨rfl, rfl⟩
          clear hH2
          have hbm := Nat.lt_of_lt_of_le hb0 m2.size
          go_wp2_with fail
          refine (HhU.out _ _ m2.w (hr.later m2) hI2).mono ?_
          rintro e w4 ⟨ub, rfl, hB4, hub⟩
          have hI4 := hI2.below hB4
          obtain ⟨m4, rfl⟩ : ∃ m4 : Later W1, m4.w = w4 := ⟨m2.on hB4, rfl⟩
          clear hI2 hB4
          cases ub
          · clear hub
            go_wp2_with fail
            go_roundw
            case rel => exact ⟨⟨m4, rfl⟩, j + 1, by omega, by go_num⟩
            case measure => simp [intOf]; omega
          · have hu2 := hub rfl
            clear hub
            have Hhu2 := Lib.hid hu2
            clear hu2
            go_wp2_with fail
            refine (Hhih.out _ _ _ _ rfl (hr.later m4) hI4 Hnd.out Hhu2.out).mono ?_
            rintro e w5 ⟨y, ao5, cap5, ok, rfl, hB5, hok⟩
            obtain ⟨m5, rfl⟩ : ∃ m5 : Later W1, m5.w = w5 := ⟨m4.on hB5, rfl⟩
            clear hB5 hI4
            have Hhok := Lib.hid hok
            clear hok
            cases ok
            · go_wp2_with fail
              go_roundw
              case rel => exact ⟨⟨m5, rfl⟩, j + 1, by omega, by go_num⟩
              case measure => simp [intOf]; omega
            · go_wp2_with fail
              go_ret2
              exact ⟨y, ao5, cap5, true, rfl, below_later HhB.out m5, fun _ => Hhok.out trivial⟩
        · rw [hin] at hH2
          clear hin
          go_wp2_with fail
          refine hH2.mono ?_
          rintro e w3 ⟨rfl, rfl⟩
          clear hH2 hI2
          go_wp2_with fail
          go_roundw
          case rel => exact ⟨⟨m2, rfl⟩, j + 1, by omega, by go_num⟩
          case measure => simp [intOf]; omega
      · obtain rfl : j = rs.length := by omega
        go_wp2_with fail
        go_ret2
        exact ⟨[], _, _, false, rfl, (below_later HhB.out m).alloc (below_later HhB.out m).size _, fun h => by cases h⟩

set_option maxRecDepth 100000 in
set_option maxHeartbeats 2000000 in
theorem specUmb_any (n : Int) (rs : List Int) (ro : Option Addr) (rc : Nat) (w : World) (hr : IntsAt w ro rs) (hrl : rs.length ≤ 1048576) :
    Calls Try.prog 44 #[.agg #[.int .i64 n, .slice ro rs.length rc]] w (fun e w' => ∃ (y : List Int) (ao : Option Addr) (cap : Nat) (ok : Bool), e = .returned (.tuple #[.slice ao y.length cap, .bool ok]) ∧ Below w.heap.size w w' ∧ (ok = true → isGraphB n rs = true ∧ ∃ u, UmbO rs u)) := by
  go_enter Try.func44, Try.ntmps44
  go_wp2_with fail
  generalize hW : w.alloc _ = W1
  obtain ⟨hB, -, k0⟩ := alloc1 hW
  replace hr := hr.below hB
  have hb0 := k0.lt
  have hc0 := k0.cell 0
  have hc1 := k0.cell 1
  simp at hc0 hc1
  clear hW k0
  have HhB := Lib.hid hB
  clear hB
  obtain ⟨m, hm0⟩ : ∃ m : Later W1, m.w = W1 := ⟨Later.refl _, rfl⟩
  refine (fun h => hm0 ▸ h) ?_
  clear hm0
  have hG := specIsGraph_any n rs ro rc m.w (hr.later m) hrl
  cases hv : isGraphB n rs
  · rw [hv] at hG
    clear hv
    refine (Calls.later m (hG)).mono ?_
    rintro e w' ⟨rfl, m, rfl⟩
    go_wp2_with fail
    go_ret2
    exact ⟨[], _, _, false, rfl, (below_later HhB.out m).alloc (below_later HhB.out m).size _, fun h => by cases h⟩
  · obtain ⟨rfl, g⟩ := VG.of hv
    rw [hv] at hG
    have Hv := Lib.hid hv
    clear hv
    refine (hG).mono ?_
    rintro e w2 ⟨rfl, hB2⟩
    obtain ⟨m, rfl⟩ : ∃ m2 : Later W1, m2.w = w2 := ⟨m.on hB2, rfl⟩
    clear hB2 hG
    have hbm := Nat.lt_of_lt_of_le hb0 m.size
    go_wp2_with fail
    generalize hW2 : m.w.alloc (.cells #[] 3) = W2
    obtain ⟨hB2, -, -⟩ := alloc1 hW2
    refine (l12Search_any rs ro rc g rs.length [] [] 0 0 ⟨m.w.heap.size, 0, none⟩ W2 (by simp) rfl rfl ((hr.later m).below hB2) (fun h => absurd h (by simp)) List.nodup_nil (fun x hx => by cases hx) (fun i j k h1 h2 h3 => by simp at h3)).mono ?_
    rintro e w3 ⟨y, ao, cap, ok, rfl, hB3, hok⟩
    have hBB := below_more' (below_later HhB.out m) (below_more' hB2 hB3)
    clear hB2 hB3 hW2
    have HhBB := Lib.hid hBB
    clear hBB
    have Hhok := Lib.hid hok
    clear hok
    go_wp2_with fail
    go_ret2
    exact ⟨y, ao, cap, ok, rfl, HhBB.out, fun h => ⟨Hv.out, Hhok.out h⟩⟩

set_option maxHeartbeats 1000000 in
theorem specProper_any (n : Int) (rs : List Int) (ro : Option Addr) (rc : Nat) (w : World) (hr : IntsAt w ro rs) (hrl : rs.length ≤ 1048576) :
    Calls Try.prog 18 #[.agg #[.int .i64 n, .slice ro rs.length rc]] w (fun e w' => ∃ b : Bool, e = .returned (.bool b) ∧ Below w.heap.size w w' ∧ (b = true → isGraphB n rs = true ∧ ∃ u, UmbO rs u)) := by
  go_enter Try.func18, Try.ntmps18
  go_wp2_with fail
  generalize hW : w.alloc _ = W1
  obtain ⟨hB, -, k0⟩ := alloc1 hW
  replace hr := hr.below hB
  have hb0 := k0.lt
  have hc0 := k0.cell 0
  have hc1 := k0.cell 1
  simp at hc0 hc1
  clear hW k0
  have HhB := Lib.hid hB
  clear hB
  refine (specUmb_any n rs ro rc W1 hr hrl).mono ?_
  rintro e w2 ⟨y, ao, cap, ok, rfl, hB2, hok⟩
  have hBB := below_more' HhB.out hB2
  clear hB2
  have HhBB := Lib.hid hBB
  clear hBB
  have Hhok := Lib.hid hok
  clear hok
  go_wp2_with fail
  go_ret
  exact ⟨ok, rfl, HhBB.out, Hhok.out⟩

end Go.Proofs.Ytfkehmpckhmkbaa
