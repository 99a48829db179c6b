/-
  slices.IndexFunc and SimpleOrder of the program. For at most 2^20 rows.
-/
import Derived.Test.YtgklgheaojoimaaPkLawStrong41
import Derived.Test.YtgklgheaojoimaaPkLawStrong47
import Derived.Test.YtgklgheaojoimaaPkLawStrong02
import Derived.Deep.RegionLaw
import Derived.Laws.EntriesVeiled
namespace Go.Proofs.Ytgklgheaojoimaa
open Go.RowKit

theorem idxV_first {p : Nat → Bool} {n k : Nat} (hk : k < n) (h : ∀ j, j < k → p j = false) (hp : p k = true) : (k : Int) = idxV (firstB p n) := by rw [firstB_hit hk h hp]; rfl
theorem idxV_never {p : Nat → Bool} {n : Nat} (h : ∀ j, j < n → p j = false) : -1 = idxV (firstB p n) := by rw [firstB_none h]; rfl

set_option maxHeartbeats 400000 in
theorem indexFunc_any (xs : List Int) (K : Nat) (caps : Array Value) (p : Nat → Bool) (ao : Option Addr) (n c : Nat) (w : World) (hx : IntsAt w ao xs) (hn : xs.length = n) (hl : n ≤ 1048576)
    (hE : ∀ args w, Sem.run Try.prog (callFunc K args) w = .ok (.enter K args) w) (hK : ∀ (m : Later w) (j : Nat), j < n → Calls Try.prog K (#[.int .i64 (gi xs j)] ++ caps) m.w fun e w' => e = .returned (.bool (p j)) ∧ Below m.w.heap.size m.w w') :
    Calls Try.prog 103 #[.slice ao n c, .func (.func K) #[] caps] w fun e w' => e = .returned (.int .i64 (idxV (firstB p n))) ∧ Below w.heap.size w w' := by
  subst hn
  have HhK := Lib.hid hK
  clear hK
  go_enter Try.func103, Try.ntmps103
  go_wp2_with fail
  go_loopw [8] (fun i wr => (∃ m : Later w, wr = m.w) ∧ ∃ k : Nat, k ≤ xs.length ∧ i = .int .i64 k ∧ ∀ j, j < k → p j = false) (fun i _ => xs.length - (intOf i).toNat)
  case atStart => exact ⟨⟨Later.refl _, rfl⟩, 0, by omega, rfl, fun j h => by omega⟩
  case round =>
    obtain ⟨⟨m, rfl⟩, k, hk, rfl, hP⟩ := hrel
    have HhP := Lib.hid hP
    clear hP
    by_cases hlt : k < xs.length
    · obtain ⟨b, off, rfl, hbl, hc⟩ := hx (by omega)
      have hkc := hc k hlt
      have hKk := HhK.out m k hlt
      clear hc
      generalize gi xs k = x at *
      have HhKk := Lib.hid hKk
      clear hKk
      go_wp2_with fail
      refine HhKk.out.mono ?_
      rintro e w2 ⟨rfl, hB2⟩
      obtain ⟨m, rfl⟩ : ∃ m2 : Later w, m2.w = w2 := ⟨m.on hB2, rfl⟩
      clear hB2
      cases he : p k
      all_goals
        go_wp2_with fail
      · go_roundw
        case rel => exact ⟨⟨m, rfl⟩, k + 1, by omega, by go_num, all_succ HhP.out he⟩
        case measure => simp [intOf]; omega
      · go_ret
        exact ⟨retI (idxV_first hlt HhP.out he), m.below⟩
    · go_wp2_with fail
      go_ret
      exact ⟨retI (idxV_never (fun j h => HhP.out j (by omega))), m.below⟩

/-- The first place of a list that passes. -/
theorem find_first (p : Nat → Bool) (l : List Nat) : (firstB (fun j => p (eln l j)) l.length = none ∧ l.find? p = none) ∨ ∃ j, j < l.length ∧ firstB (fun j => p (eln l j)) l.length = some j ∧ l.find? p = some (eln l j) := by
  rcases h : firstB (fun j => p (eln l j)) l.length with _ | j
  · refine .inl ⟨rfl, ?_⟩
    rw [List.find?_eq_none]
    intro x hx
    obtain ⟨i, hi, rfl⟩ := List.mem_iff_getElem.1 hx
    unfold firstB at h
    rw [List.find?_eq_none] at h
    have := h i (by simpa using hi)
    simpa [eln, hi] using this
  · refine .inr ⟨j, ?_⟩
    unfold firstB at h
    rw [List.find?_range_eq_some] at h
    obtain ⟨h1, h2, h3⟩ := h
    have hj : j < l.length := by simpa using h2
    refine ⟨hj, rfl, ?_⟩
    rw [List.find?_eq_some_iff_getElem]
    refine ⟨h1, j, hj, by simp [eln, hj], fun i hi => ?_⟩
    have := h3 i hi
    have hil : i < l.length := by omega
    simpa [eln, hil] using this
theorem least_els {rs : List Int} {S : Nat} (g : VG rs) (hS : S < 2 ^ rs.length) : leastB rs S = (els S).find? fun v : Nat => simpleB rs.length rs v S := by
  rw [els_eq hS g.le]
  unfold leastB firstB elsTo
  rw [List.find?_filter]
  congr 1
  funext v
  cases h : simpleB rs.length rs v S
  · simp
  · simp [(simple_left h).1]
theorem nDiff_pow {S v : Nat} (h : S < 9223372036854775808) (hv : S.testBit v = true) : nDiff S (2 ^ v) = S - 2 ^ v := by
  have h1 := nDiff_add (b := 2 ^ v) h
  have h2 : 2 ^ v &&& S = 2 ^ v := by
    apply Nat.eq_of_testBit_eq
    intro i
    rw [Nat.testBit_and, Nat.testBit_two_pow]
    by_cases e : v = i
    · subst e; simp [hv]
    · simp [e]
  rw [h2] at h1
  omega
theorem OwnE.setB' {w : World} {base cap : Nat} {ao : Option Addr} {xs : List Int} (h : OwnE w base ao cap xs) {a : Addr} (ha : a.block < base) (u : Value) : OwnE (w.setCell a u) base ao cap xs :=
  h.imp (fun h => ownsRow_setCell_below h ha u) id
/-- The number in the variable of block b. -/
def cellN (w : World) (b : Nat) : Nat := match w.cell? ⟨b, 0, none⟩ with | some v => (intOf v).toNat | none => 0
theorem cellN_blk {w : World} {b x : Nat} {T : TypeId} (h : Blk w b #[.int .i64 x] T) : cellN w b = x := by
  have := h.cell 0
  simp at this
  simp [cellN, this, intOf]

set_option maxRecDepth 100000 in
set_option maxHeartbeats 2000000 in
theorem implOrder_any (n : Int) (rs : List Int) (ro : Option Addr) (rc : Nat) (w : World) (hr : IntsAt w ro rs) (hrl : rs.length ≤ 1048576) :
    Calls Try.prog 31 #[.agg #[.int .i64 n, .slice ro rs.length rc]] w (RetO w (ordV n rs)) := by
  go_enter Try.func31, Try.ntmps31
  go_wp2_with fail
  have hrw := hr
  generalize hW : w.alloc _ = W1
  obtain ⟨hB, -, k0⟩ := alloc1 hW
  replace hr := hr.below hB
  have hb0 := k0.lt
  have hc0 := k0.cell 0
  have hc1 := k0.cell 1
  simp at hc0 hc1
  clear hW k0
  have HhB := Lib.hid hB
  clear hB
  obtain ⟨m, hm0⟩ : ∃ m : Later W1, m.w = W1 := ⟨Later.refl _, rfl⟩
  refine (fun h => hm0 ▸ h) ?_
  clear hm0
  cases hv : isGraphB n rs
  · have HE := Lib.hid (ordV_no hv)
    go_wp2_with (first | (go_at_call 70; refine (Calls.later m (implIsGraph_any _ _ _ _ _ (hr.later m) hrl)).mono ?_; rintro e w' ⟨rfl, m, rfl⟩))
    go_ret2
    exact ⟨none, 0, by rw [HE.out]; rfl, below_later HhB.out m, by rw [HE.out]; exact .inl (OwnL.nil _ _)⟩
  · have HE := Lib.hid (ordV_of hv)
    have Hhv := Lib.hid hv
    obtain ⟨rfl, g⟩ := VG.of hv
    have hg1 := g.pos
    have hg2 := g.le
    obtain ⟨hp1, hp2⟩ := g.pow
    have hp4 : 2 ^ rs.length - 1 < 2 ^ rs.length := by omega
    have hAll := fun w => implAll_any rs.length (.slice ro rs.length rc) hg2 w
    generalize hFull : 2 ^ rs.length - 1 = full at *
    have Hhp4 := Lib.hid hp4
    clear hp4
    go_wp2_with (first | (go_at_call 70; refine (Calls.later m (implIsGraph_any _ _ _ _ _ (hr.later m) hrl)).mono ?_; rw [hv]; rintro e w' ⟨rfl, m, rfl⟩; have hbm := Nat.lt_of_lt_of_le hb0 m.size) | (go_at_call 72; refine (hAll _).mono ?_; rintro e w3 ⟨rfl, hB3⟩))
    have hB4 := below_more' ((below_later HhB.out m).alloc (below_later HhB.out m).size _) hB3
    have h3s : W1.heap.size ≤ w3.heap.size := Nat.le_trans (m.below.alloc m.size _).size hB3.size
    have hB5 := below_more (m.below.alloc m.size _) hB3
    generalize (⟨m.w.heap.size, 0, none⟩ : Addr) = na at *
    generalize hW2 : w3.alloc _ = W2
    obtain ⟨hB2, hs2, k2⟩ := alloc1 hW2
    replace hB5 := below_more hB5 hB2
    replace hB4 := below_more' hB4 hB2
    replace hc0 := (hB5.cell (p := ⟨w.heap.size, 0, none⟩) hb0).trans hc0
    replace hc1 := (hB5.cell (p := ⟨w.heap.size, 1, none⟩) hb0).trans hc1
    have hb02 : w.heap.size < W2.heap.size := Nat.lt_of_lt_of_le hb0 hB5.size
    have hlw : w.heap.size < w3.heap.size := Nat.lt_of_lt_of_le hb0 h3s
    have hl2 : w3.heap.size < W2.heap.size := by omega
    clear hW2 hB2 hs2 hB5 h3s hbm hB3 hr hb0 hAll hv
    generalize w3.heap.size = lB at *
    clear m w3 HhB
    have hx0 : ¬(fun b => b = lB) w.heap.size := fun e => by have e2 : w.heap.size = lB := e; omega
    have hO := OwnE.empty W2 W2.heap.size na
    have HR : Hid (∀ m : LateX (fun b => b = lB) W2, IntsAt m.w ro rs) := fun m => hrw.below (hB4.trans (m.only.below (Nat.le_of_lt hb02) fun b hb h => by have h2 : b = lB := h; omega))
    have HhB4 := Lib.hid hB4
    clear hB4
    have HhO := Lib.hid hO
    clear hO
    go_wp2_with fail
    go_loopw [4] (fun o wr => ∃ m : LateX (fun b => b = lB) W2, wr = m.w ∧ ∃ (f S : Nat) (xs : List Int) (ao : Option Addr) (cap : Nat), S ≤ f ∧ S < 2 ^ rs.length ∧ xs.length + f ≤ 128 ∧ o = .slice ao xs.length cap ∧ Blk m.w lB #[.int .i64 S] 3 ∧ OwnE m.w W2.heap.size ao cap xs ∧ ordF rs full full [] = ordF rs f S xs) (fun _ wr => cellN wr lB)
    case atStart => exact ⟨LateX.refl _ _, rfl, full, full, [], _, _, Nat.le_refl _, Hhp4.out, by simp; omega, rfl, k2, HhO.out, rfl⟩
    case round =>
      obtain ⟨m, rfl, f, S, xs, ao, cap, hSf, hS, hlen, rfl, hbk, hO, hV⟩ := hrel
      have z := hbk.cell 0
      simp at z
      have zl := hbk.lt
      have hms := m.size
      by_cases h0 : S = 0
      · subst h0
        have HE2 := Lib.hid (HE.out.trans (hV.trans (ordF_zero f xs)))
        have HBf := Lib.hid (HhB4.out.trans (m.only.below (Nat.le_of_lt hb02) fun b hb h => by have h2 : b = lB := h; omega))
        clear hV hbk
        have HhO := Lib.hid hO
        clear hO
        go_wp2_with fail
        go_ret2
        exact ⟨ao, cap, by rw [HE2.out]; rfl, HBf.out, by rw [HE2.out]; exact OwnE.mono' HhO.out (Nat.le_of_lt hb02)⟩
      · have d0 : ((S : Int) != 0) = true := by rw [bne_iff_ne]; omega
        have h00 : 0 < S := by omega
        have hr3 := HR.out m
        have hO3 := m.only
        have hc03 := (hO3.cell (p := ⟨w.heap.size, 0, none⟩) hb02 hx0).trans hc0
        have hc13 := (hO3.cell (p := ⟨w.heap.size, 1, none⟩) hb02 hx0).trans hc1
        have hb03 := Nat.lt_of_lt_of_le hb02 hms
        have hFi := find_first (fun v : Nat => simpleB rs.length rs v S) (els S)
        rw [← least_els g hS] at hFi
        have hS128 : S < 128 := by omega
        have HLO : Hid (∀ w, Calls Try.prog 73 #[.int .i64 S] w (fun e w' => ∃ ao cap, e = .returned (.slice ao (cnt S) cap) ∧ Below w.heap.size w w' ∧ IntsAt w' ao ((els S).map Int.ofNat))) := fun w => by
          have := implListOf_any (S : Int) w
          rw [listOf_nat hS128] at this
          exact this.mono (fun e w' ⟨ao, cap, h1, h2, h3⟩ => ⟨ao, cap, by rw [h1, List.length_map]; rfl, h2, h3.ints⟩)
        have Hhbk := Lib.hid hbk
        clear hbk
        have HhO := Lib.hid hO
        clear hO
        have HhV := Lib.hid hV
        clear hV
        have HhSf := Lib.hid hSf
        clear hSf
        have Hhlen := Lib.hid hlen
        clear hlen
        have HhO3 := Lib.hid hO3
        clear hO3
        generalize m.w = W3 at *
        clear m
        have HC : Hid (∀ (m2 : Later W3) (v : Int), Calls Try.prog 104 #[.int .i64 v, .pointer (some ⟨w.heap.size, 0, none⟩), .pointer (some ⟨lB, 0, none⟩)] m2.w fun e w' => e = .returned (.bool (simpleB rs.length rs v S)) ∧ Below m2.w.heap.size m2.w w') := by
          intro m v
          clear hFi
          go_enter Try.func104, Try.ntmps104
          go_wp2_with (first | (go_at_call 44; refine (implIsSimple_any rs.length rs v S ro rc m.w (hr3.later m) hrl).mono ?_; rintro e w4 ⟨rfl, hB4⟩))
          go_ret
          exact ⟨rfl, hB4⟩
        obtain ⟨m, hm0⟩ : ∃ m : Later W3, m.w = W3 := ⟨Later.refl _, rfl⟩
        refine (fun h => hm0 ▸ h) ?_
        clear hm0
        rcases hFi with ⟨hF1, hF2⟩ | ⟨j, hj, hF1, hF2⟩
        · have HE2 := Lib.hid (HE.out.trans (HhV.out.trans (ordF_none HhSf.out h00 hF2)))
          have HBf := Lib.hid (HhB4.out.trans (HhO3.out.below (Nat.le_of_lt hb02) fun b hb h => by have h2 : b = lB := h; omega))
          clear hF2
          go_wp2_with fail
          refine (HLO.out _).mono ?_
          rintro e w5 ⟨lo, lc, rfl, hB5, hL⟩
          obtain ⟨m, rfl⟩ : ∃ m2 : Later W3, m2.w = w5 := ⟨m.on hB5, rfl⟩
          clear hB5
          go_wp2_with fail
          refine (Calls.later m (indexFunc_any ((els S).map Int.ofNat) 104 #[.pointer (some ⟨w.heap.size, 0, none⟩), .pointer (some ⟨lB, 0, none⟩)] (fun j => simpleB rs.length rs (eln (els S) j) S) lo (cnt S) lc m.w hL (by simp; rfl) (by have := cnt_le S; omega) (fun _ _ => rfl) (fun m2 j hj => by rw [gi_map _ _ hj]; exact HC.out ⟨m2.w, below_more m.below m2.below⟩ (eln (els S) j)))).mono ?_
          rw [show cnt S = (els S).length from rfl, hF1]
          rintro e w' ⟨rfl, m, rfl⟩
          clear hL HC HLO hF1
          go_wp2_with fail
          go_ret2
          exact ⟨none, 0, by rw [HE2.out]; rfl, HBf.out.trans (m.below.mono (Nat.le_of_lt hb03)), by rw [HE2.out]; exact .inl (OwnL.nil _ _)⟩
        · obtain ⟨hk1, hk2, hk3, hk4⟩ := leastB_left hF2
          have HN := Lib.hid (HhV.out.trans (ordF_some HhSf.out h00 hF2))
          have hl7 : xs.length ≤ 1048576 := by have := Hhlen.out; omega
          have hjc : j < cnt S := hj
          have hjn : idxV (some j) = (j : Int) := rfl
          have hq : bits .andNot .i64 (S : Int) (pwN (eln (els S) j)) = ((S - 2 ^ eln (els S) j : Nat) : Int) := by
            rw [pwN_small _ (by omega), bits_andNot_nat _ _ (by omega), nDiff_pow (by omega) hk2]
          have hS2 : S - 2 ^ eln (els S) j < S := by omega
          clear hF2 hk2
          go_wp2_with fail
          refine (HLO.out _).mono ?_
          rintro e w5 ⟨lo, lc, rfl, hB5, hL⟩
          obtain ⟨m, rfl⟩ : ∃ m2 : Later W3, m2.w = w5 := ⟨m.on hB5, rfl⟩
          clear hB5
          go_wp2_with fail
          refine (Calls.later m (indexFunc_any ((els S).map Int.ofNat) 104 #[.pointer (some ⟨w.heap.size, 0, none⟩), .pointer (some ⟨lB, 0, none⟩)] (fun j => simpleB rs.length rs (eln (els S) j) S) lo (cnt S) lc m.w hL (by simp; rfl) (by have := cnt_le S; omega) (fun _ _ => rfl) (fun m2 j hj => by rw [gi_map _ _ hj]; exact HC.out ⟨m2.w, below_more m.below m2.below⟩ (eln (els S) j)))).mono ?_
          rw [show cnt S = (els S).length from rfl, hF1, hjn]
          rintro e w' ⟨rfl, m, rfl⟩
          clear hL HC hF1 hjn
          go_wp2_with fail
          refine (HLO.out _).mono ?_
          rintro e w5 ⟨lo, lc, rfl, hB5, hL⟩
          obtain ⟨m, rfl⟩ : ∃ m2 : Later W3, m2.w = w5 := ⟨m.on hB5, rfl⟩
          obtain ⟨lb, lofs, rfl, hlb, hlc⟩ := hL (by simp; omega)
          have hlj := hlc j (by simpa using hj)
          rw [gi_map _ _ hj] at hlj
          clear hB5 hlc hL HLO
          generalize eln (els S) j = v at *
          generalize S - 2 ^ v = S2 at *
          go_wp2_with fail
          have hms3 := m.size
          have zl3 : lB < m.w.heap.size := by omega
          have hO4 : Only (fun b => b = lB) W2.heap.size W2 m.w := HhO3.out.more m.below hms
          have kb := Hhbk.out.below m.below zl
          have hm2 : W2.heap.size ≤ m.w.heap.size := by omega
          have HX : Hid (∀ w1 w2, Below m.w.heap.size m.w w1 → Below W2.heap.size w1 w2 → Only (fun b => b = lB) W2.heap.size W2 w2 ∧ Blk w2 lB #[.int .i64 S] 3 ∧ w2.cell? ⟨lB, 0, none⟩ = some (.int .i64 S) ∧ w2.frozen? ⟨lB, 0, none⟩ = false) := fun w1 w2 h1 h2 =>
            have k2 := (kb.below h1 zl3).below h2 hl2
            ⟨(hO4.more h1 hm2).more h2 (Nat.le_refl _), k2, k2.cell 0, k2.frozen 0⟩
          clear kb hO4
          go_region_law (refine step_append_e (by rfl) _ _ (by rfl) W2.heap.size cap ao xs (v : Int) m.w.heap.size (by rfl) ?_ (by rfl) ?_ ?_ ?_ ?_; refine (HhO.out.later m).below ?_; (first | exact ((Below.refl _ _).alloc (Nat.le_refl _) _).drew | exact (Below.refl _ _).drew.alloc (Nat.le_refl _) _); (first | exact cell_new (by simp) | exact cell_new (w := m.w) rfl); (simp; omega);  omega; intro ao2 cap2 w2 hown2 hBw2; obtain ⟨hO2, kb2, y0, y1⟩ := HX.out _ w2 (by first | exact ((Below.refl _ _).alloc (Nat.le_refl _) _).drew | exact (Below.refl _ _).drew.alloc (Nat.le_refl _) _) hBw2)
          all_goals
            have hOF := hO2.setCell (p := ⟨lB, 0, none⟩) (.inl rfl) (.int .i64 S2)
            have hEF := hown2.setB' (a := ⟨lB, 0, none⟩) hl2 (.int .i64 S2)
            have hBF : Blk (w2.setCell ⟨lB, 0, none⟩ (.int .i64 S2)) lB #[.int .i64 S2] 3 := by
              have := kb2.store 0 (.int .i64 S2)
              simpa using this
            clear hO2 hown2 kb2 hBw2 y0 y1 HX
            have HhOF := Lib.hid hOF
            clear hOF
            have HhEF := Lib.hid hEF
            clear hEF
            have HhBF := Lib.hid hBF
            clear hBF
            go_wp2_with fail
            go_roundw
            case rel => exact ⟨⟨_, HhOF.out⟩, rfl, f - 1, S2, xs ++ [(v : Int)], ao2, cap2, by have := HhSf.out; omega, by omega, by have := Hhlen.out; have := HhSf.out; simp; omega, by simp, HhBF.out, HhEF.out, HN.out⟩
            case measure => rw [cellN_blk HhBF.out, cellN_blk (Hhbk.out.later _)]; exact hS2

end Go.Proofs.Ytgklgheaojoimaa
