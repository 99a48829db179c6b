/-
  BestBand and BandwidthOf of the reference. For at most 2^20 rows.
  bestOrder of the program, for whatever number; PathwidthOf of the program. For at most 2^20 rows.
-/
import Derived.Test.YtfkehmpckhmkbaaPkLawWidths27
import Derived.Test.YtfkehmpckhmkbaaPkLawWidths14
namespace Go.Proofs.Ytfkehmpckhmkbaa
open Go.RowKit

/-- The first order of band k. -/
def bandAt (rs : List Int) (k : Nat) : Option (List Int) := dfs (mayBd rs k) (fun _ => true) rs.length rs.length []
def bestBandV (n : Int) (rs : List Int) : Option (List Int) := if isGraphB n rs = true then (match firstB (fun k => (bandAt rs k).isSome) rs.length with | some k => bandAt rs k | none => none) else none
theorem bestBandV_no {n : Int} {rs : List Int} (h : isGraphB n rs = false) : bestBandV n rs = none := by unfold bestBandV; rw [h]; rfl
theorem bestBandV_hit {rs : List Int} {k : Nat} {x : List Int} (hv : isGraphB rs.length rs = true) (hk : k < rs.length) (h : ∀ j, j < k → (bandAt rs j).isSome = false) (hp : bandAt rs k = some x) : bestBandV rs.length rs = some x := by
  unfold bestBandV
  rw [if_pos hv, firstB_hit (k := k) hk h (by rw [hp]; rfl)]
  exact hp
theorem bestBandV_none {rs : List Int} {k : Nat} (hv : isGraphB rs.length rs = true) (hk : ¬k < rs.length) (h : ∀ j, j < k → (bandAt rs j).isSome = false) : bestBandV rs.length rs = none := by
  unfold bestBandV
  rw [if_pos hv, firstB_none]
  intro j hj
  exact h j (by omega)
theorem bestBandV_len (n : Int) (rs : List Int) : ((bestBandV n rs).getD []).length ≤ 1048576 := by
  unfold bestBandV; split
  · rename_i hv
    have := (VG.of hv).2.le
    split
    · rename_i j h
      exact Nat.le_trans (dfs_len (n := rs.length) (by simp)) (by omega)
    · simp
  · simp

set_option maxRecDepth 100000 in
set_option maxHeartbeats 1000000 in
theorem specBestBand_any (n : Int) (rs : List Int) (ro : Option Addr) (rc : Nat) (w : World) (hr : IntsAt w ro rs) (hrl : rs.length ≤ 1048576) :
    Calls Try.prog 27 #[.agg #[.int .i64 n, .slice ro rs.length rc]] w (RetI w (bestBandV n rs)) := by
  go_enter Try.func27, Try.ntmps27
  go_wp2_with fail
  generalize hW : w.alloc _ = W1
  obtain ⟨hB, -, k0⟩ := alloc1 hW
  replace hr := hr.below hB
  have hb0 := k0.lt
  have hc0 := k0.cell 0
  have hc1 := k0.cell 1
  simp at hc0 hc1
  clear hW k0
  have HhB := Lib.hid hB
  clear hB
  cases hv : isGraphB n rs
  · have HE := Lib.hid (bestBandV_no hv)
    go_loopw [4] (fun i wr => (∃ m : Later W1, wr = m.w) ∧ i = .int .i64 0) (fun _ _ => 0)
    case atStart => exact ⟨⟨Later.refl _, rfl⟩, rfl⟩
    case round =>
      obtain ⟨⟨m, rfl⟩, rfl⟩ := hrel
      by_cases h3 : 0 < n
      · have d3 : decide (0 < n) = true := decide_eq_true h3
        go_wp2_with (first | (go_at_call 12; refine (Calls.later m (specIsGraph_any n rs ro rc _ (hr.later m) hrl)).mono ?_; rw [hv]; rintro e w' ⟨rfl, m, rfl⟩))
        go_ret2
        exact ⟨_, _, by rw [HE.out]; rfl, (below_later HhB.out m).alloc (below_later HhB.out m).size _, by rw [HE.out]; exact fun h => absurd h (by simp)⟩
      · have d3 : decide (0 < n) = false := decide_eq_false h3
        go_wp2_with fail
        go_ret2
        exact ⟨_, _, by rw [HE.out]; rfl, (below_later HhB.out m).alloc (below_later HhB.out m).size _, by rw [HE.out]; exact fun h => absurd h (by simp)⟩
  · obtain ⟨rfl, g⟩ := VG.of hv
    have hg1 := g.pos
    have hg2 := g.le
    go_loopw [4] (fun i wr => (∃ m : Later W1, wr = m.w) ∧ ∃ k : Nat, k ≤ rs.length ∧ i = .int .i64 k ∧ ∀ j, j < k → (bandAt rs j).isSome = false) (fun i _ => 10 - (intOf i).toNat)
    case atStart => exact ⟨⟨Later.refl _, rfl⟩, 0, by omega, rfl, fun j h => by omega⟩
    case round =>
      obtain ⟨⟨m, rfl⟩, k, hk, rfl, hP⟩ := hrel
      by_cases hlt : k < rs.length
      · have HN := Lib.hid (fun h => all_succ (p := fun j => (bandAt rs j).isSome = false) hP h)
        have HH := Lib.hid (fun x h => bestBandV_hit (x := x) hv hlt hP h)
        have hS := fun (m : Later W1) (W2 : World) (hB2 : Below m.w.heap.size m.w W2) => l27Band_any rs ro rc hv k (by omega) rs.length [] 0 0 ⟨m.w.heap.size, 0, none⟩ W2 (by simp) rfl ((hr.later m).below hB2) (fun h => absurd h (by simp)) (fun k h => absurd h (by simp))
        replace hS : ∀ (m : Later W1) (W2 : World) (hB2 : Below m.w.heap.size m.w W2), Calls Try.prog 57 #[.agg #[.int .i64 rs.length, .slice ro rs.length rc], .int .i64 k, .slice (some ⟨m.w.heap.size, 0, none⟩) 0 0] W2 (RetD W2 rs.length (bandAt rs k)) := hS
        generalize hO : bandAt rs k = O at *
        have HhP := Lib.hid hP
        clear hP
        have HhO := Lib.hid hO
        clear hO
        have HhS := Lib.hid hS
        clear hS
        go_wp2_with (first | (go_at_call 12; refine (Calls.later m (specIsGraph_any _ rs ro rc _ (hr.later m) hrl)).mono ?_; rw [hv]; rintro e w' ⟨rfl, m, rfl⟩; have hbm := Nat.lt_of_lt_of_le hb0 m.size))
        generalize hW2 : m.w.alloc (.cells #[] 3) = W2
        obtain ⟨hB2, -, -⟩ := alloc1 hW2
        refine (HhS.out m W2 hB2).mono ?_
        rintro e w3 hD
        obtain ⟨ao, cap, rfl, hB3, hI⟩ := hD.top hg1
        obtain ⟨m, rfl⟩ : ∃ m3 : Later W1, m3.w = w3 := ⟨m.on (below_more' hB2 hB3), rfl⟩
        clear hB2 hB3 hW2 hbm hD
        rcases O with _ | x
        · clear hI
          go_wp2_with fail
          go_roundw
          case rel => exact ⟨⟨m, rfl⟩, k + 1, by omega, by go_num, HN.out rfl⟩
          case measure => simp [intOf]; omega
        · have HE := Lib.hid (HH.out x rfl)
          have HhI := Lib.hid hI
          clear hI
          go_wp2_with fail
          go_ret2
          exact ⟨ao, cap, by rw [HE.out]; rfl, below_later HhB.out m, by rw [HE.out]; exact HhI.out⟩
      · have HE := Lib.hid (bestBandV_none hv hlt hP)
        clear hP
        go_wp2_with fail
        go_ret2
        exact ⟨_, _, by rw [HE.out]; rfl, (below_later HhB.out m).alloc (below_later HhB.out m).size _, by rw [HE.out]; exact fun h => absurd h (by simp)⟩

def bandwidthV (n : Int) (rs : List Int) : Int := match bestBandV n rs with | some l => bandV n rs l | none => -1

set_option maxRecDepth 100000 in
set_option maxHeartbeats 1000000 in
theorem specBandwidth_any (n : Int) (rs : List Int) (ro : Option Addr) (rc : Nat) (w : World) (hr : IntsAt w ro rs) (hrl : rs.length ≤ 1048576) :
    Calls Try.prog 9 #[.agg #[.int .i64 n, .slice ro rs.length rc]] w fun e w' => e = .returned (.int .i64 (bandwidthV n rs)) ∧ Below w.heap.size w w' := by
  go_enter Try.func9, Try.ntmps9
  go_wp2_with fail
  generalize hW : w.alloc _ = W1
  obtain ⟨hB, -, k0⟩ := alloc1 hW
  replace hr := hr.below hB
  have hb0 := k0.lt
  have hc0 := k0.cell 0
  have hc1 := k0.cell 1
  simp at hc0 hc1
  clear hW k0
  have HhB := Lib.hid hB
  clear hB
  obtain ⟨m, hm0⟩ : ∃ m : Later W1, m.w = W1 := ⟨Later.refl _, rfl⟩
  refine (fun h => hm0 ▸ h) ?_
  clear hm0
  have hlen := bestBandV_len n rs
  have hW : Hid (bandwidthV n rs = match bestBandV n rs with | some l => bandV n rs l | none => -1) := Lib.hid rfl
  have hS := specBestBand_any n rs ro rc m.w (hr.later m) hrl
  generalize bestBandV n rs = O at *
  go_wp2_with fail
  refine hS.mono ?_
  rintro e w3 ⟨ao, cap, rfl, hB3, hI⟩
  obtain ⟨m, rfl⟩ : ∃ m3 : Later W1, m3.w = w3 := ⟨m.on hB3, rfl⟩
  clear hB3 hS
  rcases O with _ | l
  · clear hI
    go_wp2_with fail
    go_ret
    exact ⟨retI (by rw [hW.out]), below_later HhB.out m⟩
  · have hb := specBandOf_any n rs l ro ao rc cap m.w (hr.later m) hrl hI hlen
    clear hI
    go_wp2_with fail
    refine (Calls.later m hb).mono ?_
    rintro e w' ⟨rfl, m, rfl⟩
    go_wp2_with fail
    go_ret
    exact ⟨retI (by rw [hW.out]), below_later HhB.out m⟩

end Go.Proofs.Ytfkehmpckhmkbaa

namespace Go.Proofs.Ytfkehmpckhmkbaa
open Go.RowKit

/-- A function that numbers the orders of a graph. -/
def NumOf (K : Nat) (rs : List Int) (ro : Option Addr) (rc : Nat) (num : List Int → Int) : Prop :=
  ∀ (l : List Int) (ao : Option Addr) (cap : Nat) (w : World), IntsAt w ro rs → IntsAt w ao l → l.length = rs.length → l.length ≤ cap → Calls Try.prog K #[.agg #[.int .i64 rs.length, .slice ro rs.length rc], .slice ao l.length cap] w fun e w' => e = .returned (.int .i64 (num l)) ∧ Below w.heap.size w w'
/-- The two variables of bestOrder, from block h + 2 on. -/
def BestI (h : Nat) (s : BestS) (w : World) : Prop := ∃ ao cap, Blk w (h + 2) #[.slice ao (s.1.getD []).length cap] 24 ∧ OwnE w (h + 4) ao cap (s.1.getD []) ∧ Blk w (h + 3) #[.int .i64 s.2] 3 ∧ h + 4 ≤ w.heap.size
def BestX (h b : Nat) : Prop := b = h + 2 ∨ b = h + 3
theorem BestI.below {h : Nat} {s : BestS} {w w' : World} (k : BestI h s w) (hb : Below w.heap.size w w') : BestI h s w' := by
  obtain ⟨ao, cap, h1, h2, h3, h4⟩ := k
  exact ⟨ao, cap, h1.below hb h1.lt, h2.below hb, h3.below hb h3.lt, Nat.le_trans h4 hb.size⟩

theorem OwnE.setX {w : World} {base cap : Nat} {ao : Option Addr} {xs : List Int} (h : OwnE w base ao cap xs) {a : Addr} (ha : a.block < base) (u : Value) : OwnE (w.setCell a u) base ao cap xs :=
  h.imp (fun h => ownsRow_setCell_below h ha u) id

set_option maxRecDepth 100000 in
set_option maxHeartbeats 2000000 in
theorem bestVisit {rs : List Int} {ro : Option Addr} {rc K h T1 : Nat} {num : List Int → Int} {W : World} (g : VG rs) (hE : ∀ args w, Sem.run Try.prog (callFunc K args) w = .ok (.enter K args) w) (hK : NumOf K rs ro rc num)
    (k0 : Blk W h #[.int .i64 rs.length, .slice ro rs.length rc] 26) (k1 : Blk W (h + 1) #[.func (.func K) #[] #[]] T1) (hr : ∀ m : LateX (BestX h) W, IntsAt m.w ro rs) :
    HoldsOf 64 #[.pointer (some ⟨h + 1, 0, none⟩), .pointer (some ⟨h, 0, none⟩), .pointer (some ⟨h + 3, 0, none⟩), .pointer (some ⟨h + 2, 0, none⟩)] (BestX h) W (fun s l => (bestStep num s l, false)) (BestI h) rs.length := by
  intro m s l ao cap hI hl hn hc
  show Calls Try.prog 64 #[.slice ao rs.length cap, .pointer (some ⟨h + 1, 0, none⟩), .pointer (some ⟨h, 0, none⟩), .pointer (some ⟨h + 3, 0, none⟩), .pointer (some ⟨h + 2, 0, none⟩)] m.w _
  have km0 := m.blk k0 (fun x => by rcases x with x | x <;> omega)
  have km1 := m.blk k1 (fun x => by rcases x with x | x <;> omega)
  have y0 := km0.cell 0
  have y1 := km0.cell 1
  have y2 := km1.cell 0
  simp at y0 y1 y2
  have yl0 := km0.lt
  have yl1 := km1.lt
  have hN7 := g.le
  have hN1 := g.pos
  have hKc := hK l ao cap m.w (hr m) hl hn.symm (by omega)
  rw [← hn] at hKc
  have Hn := Lib.hid hn
  have hl7 : l.length ≤ 7 := by omega
  have hl1 : 0 < l.length := by omega
  clear k0 k1 km0 km1 hr hK hn hN7 hN1
  clear g
  obtain ⟨s1, s2⟩ := s
  have HhI := Lib.hid hI
  clear hI
  go_enter Try.func64, Try.ntmps64
  go_wp2_with fail
  refine hKc.mono ?_
  rintro e w2 ⟨rfl, hB2⟩
  replace hl := hl.below hB2
  have hI2 := HhI.out.below hB2
  obtain ⟨bo, bcap, b1, b2, b3, b4⟩ := hI2
  dsimp only at b1 b2 b3
  have z3 := b3.cell 0
  have z4 := b3.frozen 0
  have z5 := b1.cell 0
  have z6 := b1.frozen 0
  have zl1 := b1.lt
  have zl3 := b3.lt
  simp at z3 z5
  have hms := hB2.size
  clear y0 y1 y2 HhI hKc
  have HST : Hid (bestStep num (s1, s2) l = if s2 < 0 ∨ num l < s2 then (some l, num l) else (s1, s2)) := rfl
  generalize num l = nl at *
  by_cases hcond : s2 < 0 ∨ nl < s2
  · have HS2 : Hid (bestStep num (s1, s2) l = (some l, nl)) := Lib.hid (by rw [HST.out, if_pos hcond])
    obtain ⟨lb, lofs, rfl, -, -⟩ := hl hl1
    clear HST
    have Hb1 := Lib.hid b1
    clear b1
    have Hb2 := Lib.hid b2
    clear b2
    have Hb3 := Lib.hid b3
    clear b3
    have HhB2 := Lib.hid hB2
    clear hB2
    by_cases h0 : s2 < 0
    all_goals
      go_wp2_with (first | (at_builtin; go_must (refine wpList_append_cp rfl _ _ rfl (h + 4) _ ⟨lb, lofs, none⟩ l cap rfl (congrArg (fun n => Value.slice (some ⟨lb, lofs, none⟩) n cap) Hn.out) (hl.below ((Below.refl _ _).alloc (Nat.le_refl _) _)) (by simp; omega) (by omega) ?_); intro ao1 cap1 w3 hne1 hown1 hB3; have p1 := (Hb1.out.alloc (.cells #[] 3)).below hB3 (by simp; omega); have p2 := (Hb3.out.alloc (.cells #[] 3)).below hB3 (by simp; omega); have p3 := p1.cell 0; have p4 := p1.frozen 0; have p5 := p2.cell 0; have p6 := p2.frozen 0))
      have hF : BestI h (bestStep num (s1, s2) l) ((w3.setCell ⟨h + 2, 0, none⟩ (.slice ao1 l.length cap1)).setCell ⟨h + 3, 0, none⟩ (.int .i64 nl)) := by
        rw [HS2.out]
        have r1 := (p1.store 0 (.slice ao1 l.length cap1)).other (a := ⟨h + 3, 0, none⟩) (.int .i64 nl) (by simp)
        have r2 := (p2.other (a := ⟨h + 2, 0, none⟩) (.slice ao1 l.length cap1) (by simp)).store 0 (.int .i64 nl)
        exact ⟨ao1, cap1, by simpa using r1, (hown1.setX (a := ⟨h + 2, 0, none⟩) (by simp) _).setX (a := ⟨h + 3, 0, none⟩) (by simp) _, by simpa using r2, by have := hB3.size; simp [World.setCell] at this ⊢; omega⟩
      have hO : Only (BestX h) m.w.heap.size m.w ((w3.setCell ⟨h + 2, 0, none⟩ (.slice ao1 l.length cap1)).setCell ⟨h + 3, 0, none⟩ (.int .i64 nl)) :=
        ((Only.of (X := BestX h) (((HhB2.out.alloc hms (.cells #[] 3))).trans (hB3.mono (by simp; omega)))).setCell (p := ⟨h + 2, 0, none⟩) (.inl (.inl rfl)) _).setCell (p := ⟨h + 3, 0, none⟩) (.inl (.inr rfl)) _
      clear p1 p2 p3 p4 p5 p6 hown1 hB3
      go_ret
      exact ⟨rfl, hF, hO⟩
  · have HS2 : Hid (bestStep num (s1, s2) l = (s1, s2)) := Lib.hid (by rw [HST.out, if_neg hcond])
    have c1 : ¬s2 < 0 := fun x => hcond (.inl x)
    have c2 : ¬nl < s2 := fun x => hcond (.inr x)
    have hF : BestI h (bestStep num (s1, s2) l) w2 := by rw [HS2.out]; exact ⟨bo, bcap, b1, b2, b3, b4⟩
    clear HST b1 b2 b3 hcond
    have HhF := Lib.hid hF
    clear hF
    have HhB2 := Lib.hid hB2
    clear hB2
    go_wp2_with fail
    go_ret
    exact ⟨rfl, HhF.out, Only.of HhB2.out⟩

/-! ### bestOrder -/
def bestO (num : List Int → Int) (n : Int) (rs : List Int) : BestS := if isGraphB n rs = true then bestV num rs else (none, -1)

theorem alloc4s {w W1 : World} {c0 c1 c2 c3 : Array Value} {T0 T1 T2 T3 : TypeId} (h : (((w.alloc (.cells c0 T0)).alloc (.cells c1 T1)).alloc (.cells c2 T2)).alloc (.cells c3 T3) = W1) :
    Below w.heap.size w W1 ∧ W1.heap.size = w.heap.size + 4 ∧ Blk W1 w.heap.size c0 T0 ∧ Blk W1 (w.heap.size + 1) c1 T1 ∧ Blk W1 (w.heap.size + 1 + 1) c2 T2 ∧ Blk W1 (w.heap.size + 1 + 1 + 1) c3 T3 := by
  obtain ⟨U, hU⟩ : ∃ U, (((w.alloc (.cells c0 T0)).alloc (.cells c1 T1)).alloc (.cells c2 T2)) = U := ⟨_, rfl⟩
  obtain ⟨b1, b2, b3, b4, b5⟩ := alloc3 hU
  rw [hU] at h
  obtain ⟨d1, d2, d3⟩ := alloc1 h
  rw [b2] at d1 d2 d3
  exact ⟨b1.trans (d1.mono (by omega)), d2, b3.below d1 (by omega), b4.below d1 (by omega), b5.below d1 (by omega), d3⟩

set_option maxRecDepth 100000 in
set_option maxHeartbeats 2000000 in
theorem bestOrder_any (n : Int) (rs : List Int) (ro : Option Addr) (rc K : Nat) (num : List Int → Int) (w : World) (hr : IntsAt w ro rs) (hrl : rs.length ≤ 1048576) (hE : ∀ args w, Sem.run Try.prog (callFunc K args) w = .ok (.enter K args) w) (hK : isGraphB rs.length rs = true → NumOf K rs ro rc num) :
    Calls Try.prog 31 #[.agg #[.int .i64 n, .slice ro rs.length rc], .func (.func K) #[] #[]] w fun e w' => ∃ ao cap, e = .returned (.tuple #[.slice ao ((bestO num n rs).1.getD []).length cap, .int .i64 (bestO num n rs).2]) ∧ Below w.heap.size w w' ∧ OwnE w' w.heap.size ao cap ((bestO num n rs).1.getD []) := by
  go_enter Try.func31, Try.ntmps31
  go_wp2_with fail
  generalize hW : World.alloc _ _ = W1
  obtain ⟨hB, hs, k0, k1, k2, k3⟩ := alloc4s hW
  clear hW
  cases hv : isGraphB n rs
  · have HE : Hid (bestO num n rs = (none, -1)) := by show bestO num n rs = _; unfold bestO; rw [if_neg (by rw [hv]; decide)]
    refine (firstList_bad n n rs ro rc 63 64 #[] _ W1 (hr.below hB) hrl hv).mono ?_
    rintro e w3 ⟨rfl, hB3⟩
    have z2 := (k2.below hB3 k2.lt)
    have z3 := (k3.below hB3 k3.lt)
    have y2 := z2.cell 0
    have y3 := z3.cell 0
    have l2 := z2.lt
    have l3 := z3.lt
    simp at y2 y3
    have hB4 := below_more' hB hB3
    clear hB hB3 k0 k1 k2 k3 hs z2 z3
    have HhB4 := Lib.hid hB4
    clear hB4
    obtain ⟨m, hm0⟩ : ∃ m : Later w3, m.w = w3 := ⟨Later.refl _, rfl⟩
    refine (fun h => hm0 ▸ h) ?_
    clear hm0
    go_wp2_with fail
    refine wp_region_later m rfl (by kernel_rfl) (by kernel_rfl) ?_
    repeat (go_big_quiet_step (fail))
    refine wpQuiet_nil ?_
    rintro _ ⟨m, rfl⟩
    go_wp2_with fail
    go_ret2
    exact ⟨none, 0, by rw [HE.out]; rfl, below_later HhB4.out m, by rw [HE.out]; exact .inl (OwnL.nil _ _)⟩
  · obtain ⟨rfl, g⟩ := VG.of hv
    have HE : Hid (bestO num rs.length rs = bestV num rs) := by show bestO num _ rs = _; unfold bestO; rw [if_pos hv]
    have hX : ∀ b, BestX w.heap.size b → b < W1.heap.size := fun b hb => by rcases hb with h | h <;> omega
    have hrW : ∀ m : LateX (BestX w.heap.size) W1, IntsAt m.w ro rs := fun m => hr.below (hB.trans (m.only.below hB.size fun b hb h => by rcases h with h | h <;> omega))
    have hI0 : BestI w.heap.size (none, -1) W1 := ⟨none, 0, k2, .inl (OwnL.nil _ _), k3, by omega⟩
    refine (firstList_any (fun s l => (bestStep num s l, false)) (fun _ => true) (BestI w.heap.size) (BestX w.heap.size) rs ro rc rs.length 63 64 #[] _ (none, -1) W1 (hr.below hB) hv g.pos g.le
      hX (fun _ _ => rfl) (fun _ _ => rfl) (alwaysMay_any _ _ _) (bestVisit g hE (hK hv) k0 k1 hrW) (fun s w1 w2 h1 h2 => h1.below h2) hI0).mono ?_
    rw [flRun_fold (fun _ _ => rfl)]
    rintro e w3 ⟨ao, cap, rfl, hO, hI, -⟩
    have hB3 : Below w.heap.size w w3 := hB.trans (hO.below hB.size fun b hb h => by rcases h with h | h <;> omega)
    have hI' : BestI w.heap.size (bestV num rs) w3 := hI
    clear hI hO k0 k1 k2 k3 hs hX hrW hI0 hB hr
    obtain ⟨bo, bcap, b1, b2, b3, b4⟩ := hI'
    have y2 := b1.cell 0
    have y3 := b3.cell 0
    have l2 := b1.lt
    have l3 := b3.lt
    simp at y2 y3
    generalize bestV num rs = s at *
    clear b1 b3
    have HhB3 := Lib.hid hB3
    clear hB3
    have Hb2 := Lib.hid b2
    clear b2
    obtain ⟨m, hm0⟩ : ∃ m : Later w3, m.w = w3 := ⟨Later.refl _, rfl⟩
    refine (fun h => hm0 ▸ h) ?_
    clear hm0
    go_wp2_with fail
    refine wp_region_later m rfl (by kernel_rfl) (by kernel_rfl) ?_
    repeat (go_big_quiet_step (fail))
    refine wpQuiet_nil ?_
    rintro _ ⟨m, rfl⟩
    go_wp2_with fail
    go_ret2
    exact ⟨bo, bcap, by rw [HE.out]; rfl, below_later HhB3.out m, by rw [HE.out]; exact (Hb2.out.later m).mono' (by omega)⟩

/-! ### PathwidthOf -/
theorem cutNum (rs : List Int) (ro : Option Addr) (rc : Nat) (hv : isGraphB rs.length rs = true) : NumOf 20 rs ro rc (cutV rs.length rs) := by
  intro l ao cap w hr hl hn hc
  have g := (VG.of hv).2
  have := g.le
  exact implCutOf_any rs.length rs l ro ao rc cap w hr (by omega) hl (by omega) hc

set_option maxRecDepth 100000 in
theorem implPath_any (n : Int) (rs : List Int) (ro : Option Addr) (rc : Nat) (w : World) (hr : IntsAt w ro rs) (hrl : rs.length ≤ 1048576) :
    Calls Try.prog 7 #[.agg #[.int .i64 n, .slice ro rs.length rc]] w fun e w' => e = .returned (.int .i64 (pathV n rs)) ∧ Below w.heap.size w w' := by
  have HE : Hid ((bestO (cutV rs.length rs) n rs).2 = pathV n rs) := by
    show (bestO (cutV rs.length rs) n rs).2 = pathV n rs
    cases hv : isGraphB n rs
    · rw [pathV_no hv]; unfold bestO; rw [if_neg (by rw [hv]; decide)]
    · obtain ⟨rfl, -⟩ := VG.of hv
      unfold bestO; rw [if_pos hv, path_best hv]
  go_enter Try.func7, Try.ntmps7
  go_wp2_with fail
  generalize hW : w.alloc _ = W1
  obtain ⟨hB, -, k0⟩ := alloc1 hW
  replace hr := hr.below hB
  have hb0 := k0.lt
  have hc0 := k0.cell 0
  have hc1 := k0.cell 1
  simp at hc0 hc1
  clear hW k0
  have HhB := Lib.hid hB
  clear hB
  refine (bestOrder_any n rs ro rc 20 (cutV rs.length rs) W1 hr hrl (fun _ _ => rfl) (fun hv => cutNum rs ro rc hv)).mono ?_
  rintro e w2 ⟨ao, cap, rfl, hB2, -⟩
  have hBB := below_more' HhB.out hB2
  rw [HE.out]
  clear hB2 HE
  have HhBB := Lib.hid hBB
  clear hBB
  go_wp2_with fail
  go_ret
  exact ⟨rfl, HhBB.out⟩

end Go.Proofs.Ytfkehmpckhmkbaa
