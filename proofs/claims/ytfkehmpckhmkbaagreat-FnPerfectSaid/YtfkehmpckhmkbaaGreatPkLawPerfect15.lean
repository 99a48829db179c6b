/-
  FindOddHole on both sides. For at most 2^20 rows.
-/
import Derived.Test.YtfkehmpckhmkbaaGreatPkLawPerfect14
namespace Go.Proofs.YtfkehmpckhmkbaaGreat
open Go.RowKit

/-- What FindOddHole says. -/
def oddHoleV (n : Int) (rs : List Int) : Option (List Int) := if isGraphB n rs = true then (match firstB (fun j => decide (5 + 2 * j ≤ rs.length) && (holeAt rs (5 + 2 * j)).isSome) 2 with | some j => holeAt rs (5 + 2 * j) | none => none) else none
theorem oddHoleV_no {n : Int} {rs : List Int} (h : isGraphB n rs = false) : oddHoleV n rs = none := by unfold oddHoleV; rw [h]; rfl
theorem oddHoleV_hit {rs : List Int} {k : Nat} {x : List Int} (hv : isGraphB rs.length rs = true) (hk : 5 + 2 * k ≤ rs.length) (h : ∀ j, j < k → (holeAt rs (5 + 2 * j)).isSome = false) (hp : holeAt rs (5 + 2 * k) = some x) : oddHoleV rs.length rs = some x := by
  have := (VG.of hv).2.le
  unfold oddHoleV
  rw [if_pos hv, firstB_hit (k := k) (by omega) (fun j hj => by rw [h j hj, Bool.and_false]) (by rw [hp, decide_eq_true hk]; rfl)]
  exact hp
theorem oddHoleV_none {rs : List Int} {k : Nat} (hv : isGraphB rs.length rs = true) (hk : ¬5 + 2 * k ≤ rs.length) (h : ∀ j, j < k → (holeAt rs (5 + 2 * j)).isSome = false) : oddHoleV rs.length rs = none := by
  unfold oddHoleV
  rw [if_pos hv, firstB_none]
  intro j hj
  by_cases e : j < k
  · rw [h j e, Bool.and_false]
  · rw [decide_eq_false (by omega)]; rfl
theorem oddHoleV_len (n : Int) (rs : List Int) : ((oddHoleV n rs).getD []).length ≤ 1048576 := by
  unfold oddHoleV; split
  · split
    · rename_i j h
      have hj : j < 2 := by
        unfold firstB at h
        have := List.mem_of_find?_eq_some h
        simpa using this
      exact Nat.le_trans (dfs_len (n := 5 + 2 * j) (by simp)) (by omega)
    · simp
  · simp

set_option maxRecDepth 100000 in
set_option maxHeartbeats 1000000 in
theorem specOddHoleC_any (n : Int) (rs : List Int) (ro : Option Addr) (rc : Nat) (w : World) (hr : IntsAt w ro rs) (hrl : rs.length ≤ 1048576) :
    Calls Tryz.prog 26 #[.agg #[.int .i64 n, .slice ro rs.length rc]] w (RetIC w (oddHoleV n rs)) := by
  go_enter Tryz.func26, Tryz.ntmps26
  go_wp2_with fail
  generalize hW : w.alloc _ = W1
  obtain ⟨hB, -, k0⟩ := alloc1 hW
  replace hr := hr.below hB
  have hb0 := k0.lt
  have hc0 := k0.cell 0
  have hc1 := k0.cell 1
  simp at hc0 hc1
  clear hW k0
  have HhB := Lib.hid hB
  clear hB
  cases hv : isGraphB n rs
  · have HE := Lib.hid (oddHoleV_no hv)
    go_loopw [4] (fun i wr => (∃ m : Later W1, wr = m.w) ∧ i = .int .i64 5) (fun _ _ => 0)
    case atStart => exact ⟨⟨Later.refl _, rfl⟩, rfl⟩
    case round =>
      obtain ⟨⟨m, rfl⟩, rfl⟩ := hrel
      by_cases h3 : 5 ≤ n
      · have d3 : decide (5 ≤ n) = true := decide_eq_true h3
        go_wp2_with (first | (go_at_call 13; refine (Calls.later m (specIsGraph_any n rs ro rc _ (hr.later m) hrl)).mono ?_; rw [hv]; rintro e w' ⟨rfl, m, rfl⟩))
        go_ret2
        exact ⟨_, _, by rw [HE.out]; rfl, (below_later HhB.out m).alloc (below_later HhB.out m).size _, by rw [HE.out]; exact ⟨fun h => absurd h (by simp), by simp⟩⟩
      · have d3 : decide (5 ≤ n) = false := decide_eq_false h3
        go_wp2_with fail
        go_ret2
        exact ⟨_, _, by rw [HE.out]; rfl, (below_later HhB.out m).alloc (below_later HhB.out m).size _, by rw [HE.out]; exact ⟨fun h => absurd h (by simp), by simp⟩⟩
  · obtain ⟨rfl, g⟩ := VG.of hv
    have hg2 := g.le
    go_loopw [4] (fun i wr => (∃ m : Later W1, wr = m.w) ∧ ∃ k : Nat, k ≤ 2 ∧ i = .int .i64 (5 + 2 * k : Nat) ∧ ∀ j, j < k → (holeAt rs (5 + 2 * j)).isSome = false) (fun i _ => 10 - (intOf i).toNat)
    case atStart => exact ⟨⟨Later.refl _, rfl⟩, 0, by omega, rfl, fun j h => by omega⟩
    case round =>
      obtain ⟨⟨m, rfl⟩, k, hk, rfl, hP⟩ := hrel
      by_cases hlt : 5 + 2 * k ≤ rs.length
      · have d3 : decide (((5 + 2 * k : Nat) : Int) ≤ (rs.length : Int)) = true := decide_eq_true (by omega)
        have HN := Lib.hid (fun h => all_succ (p := fun j => (holeAt rs (5 + 2 * j)).isSome = false) hP h)
        have HH := Lib.hid (fun x h => oddHoleV_hit (x := x) hv hlt hP h)
        have hS := fun (m : Later W1) (W2 : World) (hB2 : Below m.w.heap.size m.w W2) => l4Search_any rs ro rc hv (5 + 2 * k) (by omega) (5 + 2 * k) [] 0 0 ⟨m.w.heap.size, 0, none⟩ W2 (by simp) rfl (Nat.le_refl _) ((hr.later m).below hB2) (fun h => absurd h (by simp))
        simp only [← holeAt_spec] at hS
        generalize hO : holeAt rs (5 + 2 * k) = O at *
        have HhP := Lib.hid hP
        clear hP
        have HhO := Lib.hid hO
        clear hO
        have HhS := Lib.hid hS
        clear hS
        have hq : 5 + 2 * k ≤ 7 := by omega
        have hq2 : ((5 + 2 * k : Nat) : Int) + 2 = ((5 + 2 * (k + 1) : Nat) : Int) := by omega
        have hq1 : 1 ≤ 5 + 2 * k := by omega
        have hk2 : k ≤ 1 := by omega
        generalize hK : 5 + 2 * k = K at *
        have HhK := Lib.hid hK
        clear hK
        have Hhq2 := Lib.hid hq2
        clear hq2
        go_wp2_with (first | (go_at_call 13; refine (Calls.later m (specIsGraph_any _ rs ro rc _ (hr.later m) hrl)).mono ?_; rw [hv]; rintro e w' ⟨rfl, m, rfl⟩; have hbm := Nat.lt_of_lt_of_le hb0 m.size))
        generalize hW2 : m.w.alloc (.cells #[] 3) = W2
        obtain ⟨hB2, -, -⟩ := alloc1 hW2
        refine (HhS.out m W2 hB2).mono ?_
        rintro e w3 hD
        obtain ⟨ao, cap, rfl, hB3, hI, hC⟩ := hD.top hq1
        obtain ⟨m, rfl⟩ : ∃ m3 : Later W1, m3.w = w3 := ⟨m.on (below_more' hB2 hB3), rfl⟩
        clear hB2 hB3 hW2 hbm hD
        rcases O with _ | x
        · clear hI hC
          go_wp2_with fail
          go_roundw
          case rel => exact ⟨⟨m, rfl⟩, k + 1, by omega, by rw [← Hhq2.out], HN.out rfl⟩
          case measure => simp [intOf]; omega
        · have HE := Lib.hid (HH.out x rfl)
          have HhI := Lib.hid hI
          clear hI
          have HhC := Lib.hid hC
          clear hC
          go_wp2_with fail
          go_ret2
          exact ⟨ao, cap, by rw [HE.out]; rfl, below_later HhB.out m, by rw [HE.out]; exact ⟨HhI.out, HhC.out⟩⟩
      · have d3 : decide (((5 + 2 * k : Nat) : Int) ≤ (rs.length : Int)) = false := decide_eq_false (by omega)
        have HE := Lib.hid (oddHoleV_none hv hlt hP)
        clear hP
        go_wp2_with fail
        go_ret2
        exact ⟨_, _, by rw [HE.out]; rfl, (below_later HhB.out m).alloc (below_later HhB.out m).size _, by rw [HE.out]; exact ⟨fun h => absurd h (by simp), by simp⟩⟩
theorem specOddHole_any (n : Int) (rs : List Int) (ro : Option Addr) (rc : Nat) (w : World) (hr : IntsAt w ro rs) (hrl : rs.length ≤ 1048576) :
    Calls Tryz.prog 26 #[.agg #[.int .i64 n, .slice ro rs.length rc]] w (RetI w (oddHoleV n rs)) :=
  (specOddHoleC_any n rs ro rc w hr hrl).mono fun _ _ h => h.ret

/-- The number in the variable that p points to. -/
def ptrN (p : Value) (w : World) : Nat := match p with | .pointer (some a) => (match w.cell? a with | some v => (intOf v).toNat | none => 0) | _ => 0
theorem ptrN_blk {w : World} {b x : Nat} {T : TypeId} (h : Blk w b #[.int .i64 x] T) : ptrN (.pointer (some ⟨b, 0, none⟩)) w = x := by
  have := h.cell 0
  simp at this
  simp [ptrN, this, intOf]

set_option maxRecDepth 100000 in
set_option maxHeartbeats 1000000 in
theorem implOddHole_any (n : Int) (rs : List Int) (ro : Option Addr) (rc : Nat) (w : World) (hr : IntsAt w ro rs) (hrl : rs.length ≤ 1048576) :
    Calls Tryz.prog 25 #[.agg #[.int .i64 n, .slice ro rs.length rc]] w (RetO w (oddHoleV n rs)) := by
  go_enter Tryz.func25, Tryz.ntmps25
  go_wp2_with fail
  generalize hW : World.alloc _ _ = W1
  obtain ⟨hB, -, k0, k1⟩ := alloc2 hW
  replace hr := hr.below hB
  have hb0 := k0.lt
  have hc0 := k0.cell 0
  have hc1 := k0.cell 1
  simp at hc0 hc1
  clear hW k0
  have HhB := Lib.hid hB
  clear hB
  cases hv : isGraphB n rs
  · have HE := Lib.hid (oddHoleV_no hv)
    go_loopw [4] (fun p wr => ∃ m : Later W1, wr = m.w ∧ ∃ k b : Nat, k ≤ 2 ∧ p = .pointer (some ⟨b, 0, none⟩) ∧ Blk m.w b #[.int .i64 (5 + 2 * k : Nat)] 3) (fun p wr => 10 - ptrN p wr)
    case atStart => exact ⟨Later.refl _, rfl, 0, _, by omega, rfl, k1⟩
    case round =>
      obtain ⟨m, rfl, k, b, hk, rfl, hbk⟩ := hrel
      have z := hbk.cell 0
      simp only [List.getElem?_toArray, List.getElem?_cons_zero] at z
      have hq2 : ((5 + 2 * k : Nat) : Int) + 2 = ((5 + 2 * (k + 1) : Nat) : Int) := by omega
      have hM := ptrN_blk hbk
      have zl := hbk.lt
      have Hhbk := Lib.hid hbk
      clear hbk
      have HhM := Lib.hid hM
      clear hM
      by_cases h7 : 7 < n
      · by_cases hlt : k ≤ 1
        · have d3 : decide (((5 + 2 * k : Nat) : Int) ≤ 7) = true := decide_eq_true (by omega)
          have hq : 5 + 2 * k ≤ 7 := by omega
          generalize hK : 5 + 2 * k = K at *
          have HhK := Lib.hid hK
          clear hK
          have Hhq2 := Lib.hid hq2
          clear hq2
          go_wp2_with fail
          refine (firstList_bad n (K : Int) rs ro rc 51 54 _ _ m.w (hr.later m) hrl hv).mono ?_
          rintro e w3 ⟨rfl, hB3⟩
          have z3 := (Hhbk.out.below hB3 zl).cell 0
          simp only [List.getElem?_toArray, List.getElem?_cons_zero] at z3
          obtain ⟨m3, rfl⟩ : ∃ m3 : Later W1, m3.w = w3 := ⟨m.on hB3, rfl⟩
          clear hB3 z
          go_wp2_with fail
          have HN : Blk (m3.w.alloc (.cells #[.int .i64 ((K : Int) + 2)] 3)) m3.w.heap.size #[.int .i64 (5 + 2 * (k + 1) : Nat)] 3 := by rw [← Hhq2.out]; exact Blk.made _ _ _ rfl
          have HHN := Lib.hid HN
          clear HN
          go_roundw
          case rel => exact ⟨⟨_, m3.below.alloc m3.size _⟩, rfl, k + 1, _, by omega, rfl, HHN.out⟩
          case measure => rw [HhM.out, ptrN_blk HHN.out]; have := HhK.out; omega
        · have d3 : decide (((5 + 2 * k : Nat) : Int) ≤ 7) = false := decide_eq_false (by omega)
          generalize 5 + 2 * k = K at *
          go_wp2_with fail
          go_ret2
          exact ⟨none, 0, by rw [HE.out]; rfl, below_later HhB.out m, by rw [HE.out]; exact .inl (OwnL.nil _ _)⟩
      · by_cases hlt : ((5 + 2 * k : Nat) : Int) ≤ n
        · have d3 : decide (((5 + 2 * k : Nat) : Int) ≤ n) = true := decide_eq_true hlt
          have hk1 : k ≤ 1 := by omega
          have hq : 5 + 2 * k ≤ 7 := by omega
          generalize hK : 5 + 2 * k = K at *
          have HhK := Lib.hid hK
          clear hK
          have Hhq2 := Lib.hid hq2
          clear hq2
          go_wp2_with fail
          refine (firstList_bad n (K : Int) rs ro rc 51 54 _ _ m.w (hr.later m) hrl hv).mono ?_
          rintro e w3 ⟨rfl, hB3⟩
          have z3 := (Hhbk.out.below hB3 zl).cell 0
          simp only [List.getElem?_toArray, List.getElem?_cons_zero] at z3
          obtain ⟨m3, rfl⟩ : ∃ m3 : Later W1, m3.w = w3 := ⟨m.on hB3, rfl⟩
          clear hB3 z
          go_wp2_with fail
          have HN : Blk (m3.w.alloc (.cells #[.int .i64 ((K : Int) + 2)] 3)) m3.w.heap.size #[.int .i64 (5 + 2 * (k + 1) : Nat)] 3 := by rw [← Hhq2.out]; exact Blk.made _ _ _ rfl
          have HHN := Lib.hid HN
          clear HN
          go_roundw
          case rel => exact ⟨⟨_, m3.below.alloc m3.size _⟩, rfl, k + 1, _, by omega, rfl, HHN.out⟩
          case measure => rw [HhM.out, ptrN_blk HHN.out]; have := HhK.out; omega
        · have d3 : decide (((5 + 2 * k : Nat) : Int) ≤ n) = false := decide_eq_false hlt
          generalize 5 + 2 * k = K at *
          go_wp2_with fail
          go_ret2
          exact ⟨none, 0, by rw [HE.out]; rfl, below_later HhB.out m, by rw [HE.out]; exact .inl (OwnL.nil _ _)⟩
  · obtain ⟨rfl, g⟩ := VG.of hv
    have hg2 := g.le
    have h7 : ¬(7 : Int) < (rs.length : Int) := by omega
    go_loopw [4] (fun p wr => ∃ m : Later W1, wr = m.w ∧ ∃ k b : Nat, k ≤ 2 ∧ p = .pointer (some ⟨b, 0, none⟩) ∧ Blk m.w b #[.int .i64 (5 + 2 * k : Nat)] 3 ∧ ∀ j, j < k → (holeAt rs (5 + 2 * j)).isSome = false) (fun p wr => 10 - ptrN p wr)
    case atStart => exact ⟨Later.refl _, rfl, 0, _, by omega, rfl, k1, fun j h => by omega⟩
    case round =>
      obtain ⟨m, rfl, k, b, hk, rfl, hbk, hP⟩ := hrel
      have z := hbk.cell 0
      simp only [List.getElem?_toArray, List.getElem?_cons_zero] at z
      have hM := ptrN_blk hbk
      have zl := hbk.lt
      have Hhbk := Lib.hid hbk
      clear hbk
      have HhM := Lib.hid hM
      clear hM
      by_cases hlt : 5 + 2 * k ≤ rs.length
      · have d3 : decide (((5 + 2 * k : Nat) : Int) ≤ (rs.length : Int)) = true := decide_eq_true (by omega)
        have HN := Lib.hid (fun h => all_succ (p := fun j => (holeAt rs (5 + 2 * j)).isSome = false) hP h)
        have HH := Lib.hid (fun x h => oddHoleV_hit (x := x) hv hlt hP h)
        have hq : 5 + 2 * k ≤ 7 := by omega
        have hk1 : k ≤ 1 := by omega
        have hq1 : 1 ≤ 5 + 2 * k := by omega
        have hq2 : ((5 + 2 * k : Nat) : Int) + 2 = ((5 + 2 * (k + 1) : Nat) : Int) := by omega
        have hF := firstList_any (S := Unit) (fun _ l => ((), holeB rs.length rs l)) (mayI rs (5 + 2 * k)) (fun _ _ => True) (fun _ => False) rs ro rc (5 + 2 * k) 51 54 #[.pointer (some ⟨b, 0, none⟩), .pointer (some ⟨w.heap.size, 0, none⟩)] #[.pointer (some ⟨w.heap.size, 0, none⟩)] () m.w (hr.later m) hv hq1 hq
          (fun _ h => h.elim) (fun _ _ => rfl) (fun _ _ => rfl) (fun m2 l ao k2 cap hl hk2 hc hn h0 => by
            subst hk2
            show Calls Tryz.prog 51 #[.slice ao l.length cap, .pointer (some ⟨b, 0, none⟩), .pointer (some ⟨w.heap.size, 0, none⟩)] m2.w _
            have hB0 : Below m.w.heap.size m.w m2.w := m2.only.below (Nat.le_refl _) fun _ _ h => h
            have hB2 : Below W1.heap.size W1 m2.w := below_more m.below hB0
            have y0 := (hB2.cell (p := ⟨w.heap.size, 0, none⟩) hb0).trans hc0
            have y1 := (hB2.cell (p := ⟨w.heap.size, 1, none⟩) hb0).trans hc1
            have y2 := (hB0.cell (p := ⟨b, 0, none⟩) zl).trans z
            have hr2 := hr.below hB2
            have hl7 : l.length ≤ 1048576 := by omega
            have HM : Hid (mayI rs (5 + 2 * k) l = (decide (l.length = 5 + 2 * k) || pathB rs.length rs l)) := rfl
            clear hc0 hc1 z hP d3
            by_cases hlk : l.length = 5 + 2 * k
            · have dk : ((l.length : Int) == ((5 + 2 * k : Nat) : Int)) = true := by rw [beq_iff_eq]; omega
              have HK := Lib.hid (decide_eq_true hlk)
              clear hlk hlt
              generalize 5 + 2 * k = K at *
              go_enter Tryz.func51, Tryz.ntmps51
              go_wp2_with fail
              go_ret
              exact ⟨retB (by rw [HM.out, HK.out]; rfl), Below.refl _ _⟩
            · have dk : ((l.length : Int) == ((5 + 2 * k : Nat) : Int)) = false := by rw [beq_eq_false_iff_ne]; omega
              have HK := Lib.hid (decide_eq_false hlk)
              clear hlk hlt
              generalize 5 + 2 * k = K at *
              go_enter Tryz.func51, Tryz.ntmps51
              go_wp2_with (first | (go_at_call 52; refine (implIsPath_any rs.length rs l ro ao rc cap m2.w hr2 hrl hl hl7 hc).mono ?_; rintro e w3 ⟨rfl, hB3⟩))
              go_ret
              exact ⟨retB (by rw [HM.out, HK.out]; rfl), hB3⟩) (fun m2 s l ao cap _ hl hn hc => by
            show Calls Tryz.prog 54 #[.slice ao (5 + 2 * k) cap, .pointer (some ⟨w.heap.size, 0, none⟩)] m2.w _
            have hB2 : Below W1.heap.size W1 m2.w := below_more m.below (m2.only.below (Nat.le_refl _) fun _ _ h => h)
            have y0 := (hB2.cell (p := ⟨w.heap.size, 0, none⟩) hb0).trans hc0
            have y1 := (hB2.cell (p := ⟨w.heap.size, 1, none⟩) hb0).trans hc1
            have hr2 := hr.below hB2
            rw [hn]
            have hl7 : l.length ≤ 1048576 := by omega
            have hc' : l.length ≤ cap := by omega
            clear hc0 hc1 z hP d3
            go_enter Tryz.func54, Tryz.ntmps54
            go_wp2_with (first | (go_at_call 43; refine (implIsHole_any rs.length rs l ro ao rc cap m2.w hr2 hrl hl hl7 hc').mono ?_; rintro e w3 ⟨rfl, hB3⟩))
            go_ret
            exact ⟨rfl, trivial, Only.of hB3⟩) (fun _ _ _ _ _ => trivial) trivial
        have HD : Hid ((flRun (S := Unit) (fun _ l => ((), holeB rs.length rs l)) (mayI rs (5 + 2 * k)) rs.length (5 + 2 * k) () []).2 = holeAt rs (5 + 2 * k)) := rfl
        rw [HD.out] at hF
        clear HD
        generalize hO : holeAt rs (5 + 2 * k) = O at *
        have HhP := Lib.hid hP
        clear hP
        have HhO := Lib.hid hO
        clear hO
        have HhF := Lib.hid hF
        clear hF
        generalize hK : 5 + 2 * k = K at *
        have HhK := Lib.hid hK
        clear hK
        have Hhq2 := Lib.hid hq2
        clear hq2
        go_wp2_with fail
        refine HhF.out.mono ?_
        rintro e w3 ⟨ao, cap, rfl, hOn, -, hE⟩
        have hms := m.size
        have hB3 : Below m.w.heap.size m.w w3 := hOn.below (Nat.le_refl _) fun _ _ h => h
        have z3 := (Hhbk.out.below hB3 zl).cell 0
        simp only [List.getElem?_toArray, List.getElem?_cons_zero] at z3
        obtain ⟨m3, rfl⟩ : ∃ m3 : Later W1, m3.w = w3 := ⟨m.on hB3, rfl⟩
        clear hOn hB3 z
        rcases O with _ | x
        · clear hE
          go_wp2_with fail
          have hNB : Blk (m3.w.alloc (.cells #[.int .i64 ((K : Int) + 2)] 3)) m3.w.heap.size #[.int .i64 (5 + 2 * (k + 1) : Nat)] 3 := by rw [← Hhq2.out]; exact Blk.made _ _ _ rfl
          have HhNB := Lib.hid hNB
          clear hNB
          go_roundw
          case rel => exact ⟨⟨_, m3.below.alloc m3.size _⟩, rfl, k + 1, _, by omega, rfl, HhNB.out, HN.out rfl⟩
          case measure => rw [HhM.out, ptrN_blk HhNB.out]; have := HhK.out; omega
        · have HE := Lib.hid (HH.out x rfl)
          have HhE := Lib.hid hE
          clear hE
          go_wp2_with fail
          go_ret2
          exact ⟨ao, cap, by rw [HE.out]; rfl, below_later HhB.out m3, by rw [HE.out]; exact HhE.out.mono' (Nat.le_trans (Nat.le_of_lt hb0) hms)⟩
      · have d3 : decide (((5 + 2 * k : Nat) : Int) ≤ (rs.length : Int)) = false := decide_eq_false (by omega)
        have HE := Lib.hid (oddHoleV_none hv hlt hP)
        clear hP
        generalize 5 + 2 * k = K at *
        go_wp2_with fail
        go_ret2
        exact ⟨none, 0, by rw [HE.out]; rfl, below_later HhB.out m, by rw [HE.out]; exact .inl (OwnL.nil _ _)⟩

end Go.Proofs.YtfkehmpckhmkbaaGreat
