/-
  ColoringWith and ChromaticNumber of the program. For at most 2^20 rows.
-/
import Derived.Test.YtkefkmjfjghggaaColorings
namespace Go.Proofs.Ytkefkmjfjghggaa
open Go.RowKit

theorem wpList_append_copy {ops : Array Oper} {rest : List Oper} {o : Oper} {a : Act} {Q : Exit → Act → World → Prop} {w : World} (hgd : o.guard = none) (s x : Operand)
    (ho : o.op = .call { callee := .builtin .append, args := #[s, x], argTypes := #[24, 24] })
    (base B : Nat) (la : Addr) (l : List Int) (lc : Nat) (hs : a.eval s = .slice (some ⟨B, 0, none⟩) 0 0) (hx : a.eval x = .slice (some la) l.length lc) (hi : IntsAt w (some la) l) (hbase : base ≤ w.heap.size) (hlen : l.length ≤ 1048576)
    (h : ∀ ao' cap' w', ao' ≠ none → OwnE w' base ao' cap' l → Below w.heap.size w w' → wpList Try.prog ops Q rest (a.put o.dst (.slice ao' l.length cap')) w') : wpList Try.prog ops Q (o :: rest) a w :=
  wpList_plain hgd fun _ hK => wp_append_copy s x ho base B la l lc hs hx hi hbase hlen fun ao' cap' w' h1 h2 h3 => hK _ _ (h ao' cap' w' h1 h2 h3)

theorem OwnE.mono {w : World} {base base' cap : Nat} {ao : Option Addr} {xs : List Int} (h : OwnE w base ao cap xs) (hb : base' ≤ base) : OwnE w base' ao cap xs := h.imp (fun h => h.mono hb) id

/-! ### The first coloring -/
def lastV (_ : Option (List Int)) (l : List Int) : Option (List Int) × Bool := (some l, false)
/-- The first way to go on with colors. -/
def firstC (rs : List Int) (kc f : Nat) (l : List Int) : Option (List Int) := (colRun lastV rs kc f none l).1
theorem preB_last {step : Nat → Option (List Int) → Option (List Int) × Bool} (h : ∀ c, (step c none).2 = (step c none).1.isNone) : ∀ j, (preB step none j).2 = (preB step none j).1.isNone
  | 0 => rfl
  | j + 1 => by
    have ih := preB_last h j
    rw [preB]
    split
    · rename_i h1
      rw [h1] at ih
      have : (preB step none j).1 = none := by simpa using ih.symm
      rw [this]; exact h j
    · exact ih
theorem colRun_last (rs : List Int) (kc : Nat) : ∀ f l, (colRun lastV rs kc f none l).2 = (firstC rs kc f l).isNone
  | 0, l => rfl
  | f + 1, l => preB_last (fun c => by
      show (if freeTo rs l c l.length = true then colRun lastV rs kc f none (l ++ [(c : Int)]) else (none, true)).2 = (if freeTo rs l c l.length = true then colRun lastV rs kc f none (l ++ [(c : Int)]) else (none, true)).1.isNone
      split
      · exact colRun_last rs kc f _
      · rfl) kc
theorem firstC_len (rs : List Int) (kc : Nat) : ∀ f l x, firstC rs kc f l = some x → x.length = l.length + f
  | 0, l, x, h => by
    have : some l = some x := h
    simp only [Option.some.injEq] at this
    rw [← this, Nat.add_zero]
  | f + 1, l, x, h => by
    have hj : ∀ j, ∀ x, (preB (fun c s => if freeTo rs l c l.length = true then colRun lastV rs kc f s (l ++ [(c : Int)]) else (s, true)) none j).1 = some x → x.length = l.length + (f + 1) := by
      intro j
      induction j with
      | zero => intro x hx; cases hx
      | succ j ih =>
        intro x hx
        rw [preB] at hx
        split at hx
        · rename_i h2
          have hn : (preB (fun c s => if freeTo rs l c l.length = true then colRun lastV rs kc f s (l ++ [(c : Int)]) else (s, true)) none j).1 = none := by
            have := preB_last (step := fun c s => if freeTo rs l c l.length = true then colRun lastV rs kc f s (l ++ [(c : Int)]) else (s, true)) (fun c => by
              split
              · exact colRun_last rs kc f _
              · rfl) j
            rw [h2] at this
            simpa using this.symm
          rw [hn] at hx
          split at hx
          · have := firstC_len rs kc f _ x hx
            rw [this]; simp; omega
          · cases hx
        · exact ih x hx
    exact hj kc x h
/-- What ColoringWith says. -/
def colWith (n : Int) (rs : List Int) (k : Int) : Option (List Int) := if isGraphB n rs = true ∧ (decide (1 ≤ k) && decide (k ≤ 7)) = true then firstC rs k.toNat rs.length [] else none
theorem colWith_no {n : Int} {rs : List Int} {k : Int} (h : isGraphB n rs = false) : colWith n rs k = none := by unfold colWith; rw [if_neg]; rintro ⟨a, -⟩; rw [h] at a; cases a
theorem colWith_out {n : Int} {rs : List Int} {k : Int} (h : (decide (1 ≤ k) && decide (k ≤ 7)) = false) : colWith n rs k = none := by unfold colWith; rw [if_neg]; rintro ⟨-, a⟩; rw [h] at a; cases a
theorem colWith_of {n : Int} {rs : List Int} {k : Nat} (h : isGraphB n rs = true) (h1 : (decide (1 ≤ (k : Int)) && decide ((k : Int) ≤ 7)) = true) : colWith n rs k = firstC rs k rs.length [] := by unfold colWith; rw [if_pos ⟨h, h1⟩]; rfl

/-- What the visitor of ColoringWith leaves in its variable. -/
def KeptL (bv : Nat) (s : Option (List Int)) (w : World) : Prop := ∃ ao cap, ao ≠ none ∧ Blk w bv #[.slice ao (s.getD []).length cap] 24 ∧ OwnE w (bv + 1) ao cap (s.getD [])

set_option maxRecDepth 100000 in
theorem lastVisit (bv N : Nat) (hN7 : N ≤ 7) : VisitOf 74 lastV (fun _ => .slice none 0 0) (KeptL bv) 24 bv N := by
  intro s l ao cap w hb hl hN hne hc
  obtain ⟨la, rfl⟩ := Option.ne_none_iff_exists'.1 hne
  have z1 := hb.cell 0
  have z2 := hb.frozen 0
  simp at z1
  have hlt := hb.lt
  have hl7 : l.length ≤ 1048576 := by omega
  clear hN hne
  have Hhb := Lib.hid hb
  clear hb
  go_enter Try.func74, Try.ntmps74
  go_wp2_with (first | (at_builtin; go_must (refine wpList_append_copy rfl _ _ rfl (bv + 1) _ la l cap rfl rfl (hl.below ((Below.refl _ _).alloc (Nat.le_refl _) _)) (by simp; omega) hl7 ?_); intro ao1 cap1 w1 hne1 hown1 hBw1; have y1 := (Hhb.out.alloc (.cells #[] 3)).below hBw1 (by simp; omega); have y2 := y1.cell 0; have y3 := y1.frozen 0))
  go_ret
  refine ⟨rfl, (Only.of (X := fun b => b = bv) (((Below.refl _ _).alloc (Nat.le_refl _) _).trans (hBw1.mono (by simp)))).setCell (p := ⟨bv, 0, none⟩) (.inl rfl) _, fun h => absurd h (by simp [lastV]), fun _ => ⟨ao1, cap1, hne1, ?_, hown1.setCell (a := ⟨bv, 0, none⟩) (Nat.lt_succ_self _) _⟩⟩
  have := y1.store 0 (.slice ao1 l.length cap1)
  simpa [lastV] using this

/-- What ColoringWith hands back. -/
def RetC (w : World) (s : Option (List Int)) (e : Ending) (w' : World) : Prop := ∃ ao cap, e = .returned (.tuple #[.slice ao (s.getD []).length cap, .bool s.isSome]) ∧ Below w.heap.size w w' ∧ OwnE w' w.heap.size ao cap (s.getD [])

set_option maxRecDepth 100000 in
set_option maxHeartbeats 1000000 in
theorem implColW_any (n : Int) (rs : List Int) (k : Int) (ro : Option Addr) (rc : Nat) (w : World) (hr : IntsAt w ro rs) (hrl : rs.length ≤ 1048576) :
    Calls Try.prog 11 #[.agg #[.int .i64 n, .slice ro rs.length rc], .int .i64 k] w (RetC w (colWith n rs k)) := by
  have q22 : ∀ (w : World) (a : Option Addr) (n c n' c' : Nat), (binOp .neq 24 (.slice a n c) (.slice none n' c')).run Try.prog w = .ok (.bool (!a.isNone)) w := fun w a n c n' c' => run_neq_slice_nil_any w _ _ a n c n' c' Try.underlying24
  go_enter Try.func11, Try.ntmps11
  go_wp2_with fail
  generalize hW : w.alloc _ = W1
  obtain ⟨hB, -, k0⟩ := alloc1 hW
  replace hr := hr.below hB
  have hb0 := k0.lt
  have hc0 := k0.cell 0
  have hc1 := k0.cell 1
  simp at hc0 hc1
  clear hW k0
  have HhB := Lib.hid hB
  clear hB
  obtain ⟨m, hm0⟩ : ∃ m : Later W1, m.w = W1 := ⟨Later.refl _, rfl⟩
  refine (fun h => hm0 ▸ h) ?_
  clear hm0
  cases hw : (decide (1 ≤ k) && decide (k ≤ 7))
  · have HE := Lib.hid (colWith_out (n := n) (rs := rs) hw)
    go_wp2_with (first | (go_at_call 71; refine (within_any _ _ _ _).mono ?_; rintro e w' ⟨rfl, rfl⟩))
    go_ret2
    refine ⟨none, 0, by rw [HE.out]; rfl, below_later HhB.out m, by rw [HE.out]; exact .inl (OwnL.nil _ _)⟩
  cases hv : isGraphB n rs
  · have HE := Lib.hid (colWith_no (k := k) hv)
    go_wp2_with (first | (go_at_call 71; refine (within_any _ _ _ _).mono ?_; rintro e w' ⟨rfl, rfl⟩) | (go_at_call 72; refine (Calls.later m (implIsGraph_any _ _ _ _ _ (hr.later m) hrl)).mono ?_; rintro e w' ⟨rfl, m, rfl⟩))
    go_ret2
    refine ⟨none, 0, by rw [HE.out]; rfl, below_later HhB.out m, by rw [HE.out]; exact .inl (OwnL.nil _ _)⟩
  · obtain ⟨rfl, g⟩ := VG.of hv
    have hw' := hw
    simp only [Bool.and_eq_true, decide_eq_true_eq] at hw'
    obtain ⟨k, rfl⟩ : ∃ k' : Nat, k = k' := ⟨k.toNat, by omega⟩
    have hk : k ≤ 7 := by omega
    clear hw'
    have HE := Lib.hid (colWith_of hv hw)
    go_wp2_with (first | (go_at_call 71; refine (within_any _ _ _ _).mono ?_; rintro e w' ⟨rfl, rfl⟩) | (go_at_call 72; refine (Calls.later m (implIsGraph_any _ _ _ _ _ (hr.later m) hrl)).mono ?_; rintro e w' ⟨rfl, m, rfl⟩; have hbm := Nat.lt_of_lt_of_le hb0 m.size))
    generalize hW2 : m.w.alloc (.cells #[.slice none 0 0] 24) = W2
    obtain ⟨hB2, -, k2⟩ := alloc1 hW2
    refine (colorings_any lastV (fun _ => .slice none 0 0) (KeptL m.w.heap.size) 24 rs ro rc k 74 m.w.heap.size none m.w W2 g hk hB2 (hr.later m) (Nat.le_refl _) k2 (fun _ _ => rfl) (lastVisit _ _ g.le)).mono ?_
    rintro e w3 ⟨rfl, hO, h1, h2⟩
    have hB3 : Below w.heap.size w w3 := (below_later HhB.out m).trans ((hB2.mono (Nat.le_of_lt hbm)).trans (hO.below (Nat.le_trans (Nat.le_of_lt hbm) hB2.size) (fun b hb h => by omega)))
    rw [colRun_last] at h1 h2
    have HF : Hid ((colRun lastV rs k rs.length none []).1 = firstC rs k rs.length []) := rfl
    rw [HF.out] at h2
    have hml := HhB.out.size
    have hms := m.size
    clear HF hB2 hW2 k2 hO
    generalize firstC rs k rs.length [] = O at *
    have HhB3 := Lib.hid hB3
    clear hB3
    rcases O with _ | x
    · have k3 := h1 rfl
      have z1 := k3.cell 0
      simp at z1
      have z0 := k3.lt
      obtain ⟨m3, hm0⟩ : ∃ m : Later w3, m.w = w3 := ⟨Later.refl _, rfl⟩
      refine (fun h => hm0 ▸ h) ?_
      clear hm0
      go_wp2_with fail
      refine wp_region_later m3 rfl (by kernel_rfl) (by kernel_rfl) ?_
      repeat (go_big_quiet_step (fail))
      refine wpQuiet_nil ?_
      rintro _ ⟨m3, rfl⟩
      go_wp2_with fail
      go_ret2
      refine ⟨none, 0, by rw [HE.out]; rfl, HhB3.out.trans (m3.below.mono HhB3.out.size), by rw [HE.out]; exact .inl (OwnL.nil _ _)⟩
    · obtain ⟨ao, cap, hne, k3, hown⟩ := h2 rfl
      obtain ⟨la, rfl⟩ := Option.ne_none_iff_exists'.1 hne
      have z1 := k3.cell 0
      simp at z1
      have z0 := k3.lt
      have Hk3 := Lib.hid k3
      clear k3
      have Hhown := Lib.hid hown
      clear hown
      clear h1 h2 hne
      obtain ⟨m3, hm0⟩ : ∃ m : Later w3, m.w = w3 := ⟨Later.refl _, rfl⟩
      refine (fun h => hm0 ▸ h) ?_
      clear hm0
      go_wp2_with fail
      refine wp_region_later m3 rfl (by kernel_rfl) (by kernel_rfl) ?_
      repeat (go_big_quiet_step (fail))
      refine wpQuiet_nil ?_
      rintro _ ⟨m3, rfl⟩
      go_wp2_with fail
      go_ret2
      refine ⟨some la, cap, by rw [HE.out]; rfl, HhB3.out.trans (m3.below.mono HhB3.out.size), ?_⟩
      rw [HE.out]
      exact (Hhown.out.mono (by omega)).later m3

/-! ### ChromaticNumber -/
/-- What ChromaticNumber says. -/
def chromV (n : Int) (rs : List Int) : Int := match firstB (fun j => (colWith n rs ((j + 1 : Nat) : Int)).isSome) 7 with | some j => ((j + 1 : Nat) : Int) | none => -1
theorem chromV_hit {n : Int} {rs : List Int} {k : Nat} (hk : k < 7) (h : ∀ j, j < k → (colWith n rs ((j + 1 : Nat) : Int)).isSome = false) (hp : (colWith n rs ((k + 1 : Nat) : Int)).isSome = true) : chromV n rs = ((k + 1 : Nat) : Int) := by
  unfold chromV; rw [firstB_hit hk h hp]
theorem chromV_none {n : Int} {rs : List Int} (h : ∀ j, j < 7 → (colWith n rs ((j + 1 : Nat) : Int)).isSome = false) : chromV n rs = -1 := by
  unfold chromV; rw [firstB_none h]

set_option maxRecDepth 100000 in
set_option maxHeartbeats 1000000 in
theorem implChrom_any (n : Int) (rs : List Int) (ro : Option Addr) (rc : Nat) (w : World) (hr : IntsAt w ro rs) (hrl : rs.length ≤ 1048576) :
    Calls Try.prog 8 #[.agg #[.int .i64 n, .slice ro rs.length rc]] w fun e w' => e = .returned (.int .i64 (chromV n rs)) ∧ Below w.heap.size w w' := by
  go_enter Try.func8, Try.ntmps8
  go_wp2_with fail
  generalize hW : w.alloc _ = W1
  obtain ⟨hB, -, k0⟩ := alloc1 hW
  replace hr := hr.below hB
  have hb0 := k0.lt
  have hc0 := k0.cell 0
  have hc1 := k0.cell 1
  simp at hc0 hc1
  clear hW k0
  have HhB := Lib.hid hB
  clear hB
  go_loopw [3] (fun i wr => (∃ m : Later W1, wr = m.w) ∧ ∃ k : Nat, k ≤ 7 ∧ i = .int .i64 (k + 1 : Nat) ∧ ∀ j, j < k → (colWith n rs ((j + 1 : Nat) : Int)).isSome = false) (fun i _ => 8 - (intOf i).toNat)
  case atStart => exact ⟨⟨Later.refl _, rfl⟩, 0, by omega, rfl, fun j h => by omega⟩
  case round =>
    obtain ⟨⟨m, rfl⟩, k, hk, rfl, hP⟩ := hrel
    have HhP := Lib.hid hP
    clear hP
    by_cases hlt : k < 7
    · have hk7 : decide (((k + 1 : Nat) : Int) ≤ 7) = true := decide_eq_true (by omega)
      have hC := fun m : Later W1 => implColW_any n rs ((k + 1 : Nat) : Int) ro rc m.w (hr.later m) hrl
      have HN := Lib.hid (fun h => all_succ (p := fun j => (colWith n rs ((j + 1 : Nat) : Int)).isSome = false) HhP.out h)
      have HH := Lib.hid (fun h => chromV_hit (n := n) (rs := rs) hlt HhP.out h)
      generalize hO : colWith n rs ((k + 1 : Nat) : Int) = O at *
      have HhO := Lib.hid hO
      clear hO
      cases hs : O.isSome
      · go_wp2_with (first | (go_at_call 11; refine (hC m).mono ?_; rintro e w3 ⟨ao, cap, rfl, hB3, -⟩; obtain ⟨m, rfl⟩ : ∃ m2 : Later W1, m2.w = w3 := ⟨m.on hB3, rfl⟩; clear hB3))
        go_roundw
        case rel => exact ⟨⟨m, rfl⟩, k + 1, by omega, by go_num, HN.out hs⟩
        case measure => simp [intOf]; omega
      · go_wp2_with (first | (go_at_call 11; refine (hC m).mono ?_; rintro e w3 ⟨ao, cap, rfl, hB3, -⟩; obtain ⟨m, rfl⟩ : ∃ m2 : Later W1, m2.w = w3 := ⟨m.on hB3, rfl⟩; clear hB3))
        go_ret
        exact ⟨retI (by rw [HH.out hs]; omega), below_later HhB.out m⟩
    · obtain rfl : k = 7 := by omega
      have HE := Lib.hid (chromV_none HhP.out)
      go_wp2_with fail
      go_ret
      exact ⟨retI (by rw [HE.out]), below_later HhB.out m⟩

end Go.Proofs.Ytkefkmjfjghggaa
