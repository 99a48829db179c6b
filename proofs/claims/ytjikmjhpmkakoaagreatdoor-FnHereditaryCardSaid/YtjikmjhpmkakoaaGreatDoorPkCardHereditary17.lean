/-
  firstList of the program, for whatever two functions; what a search with one pruning or another finds. For at most 2^20 rows.
-/
import Derived.Test.YtjikmjhpmkakoaaGreatDoorPkCardHereditary16
import Derived.Test.YtjikmjhpmkakoaaGreatDoorPkCardHereditary03
namespace Go.Proofs.YtjikmjhpmkakoaaGreatDoor
open Go.RowKit

theorem allocs5 {w W1 : World} {c0 c1 c2 c3 c4 : Array Value} {T0 T1 T2 T3 T4 : TypeId} (h : (((((w.alloc (.cells c0 T0)).alloc (.cells c1 T1)).alloc (.cells c2 T2)).alloc (.cells c3 T3)).alloc (.cells c4 T4)) = W1) :
    Below w.heap.size w W1 ∧ W1.heap.size = w.heap.size + 5 ∧ Blk W1 w.heap.size c0 T0 ∧ Blk W1 (w.heap.size + 1) c1 T1 ∧ Blk W1 (w.heap.size + 1 + 1) c2 T2 ∧ Blk W1 (w.heap.size + 1 + 1 + 1) c3 T3 ∧ Blk W1 (w.heap.size + 1 + 1 + 1 + 1) c4 T4 := by
  obtain ⟨U, hU⟩ : ∃ U, (((w.alloc (.cells c0 T0)).alloc (.cells c1 T1)).alloc (.cells c2 T2)) = U := ⟨_, rfl⟩
  obtain ⟨b1, b2, b3, b4, b5⟩ := alloc3 hU
  rw [hU] at h
  obtain ⟨d1, d2, d3, d4⟩ := alloc2 h
  rw [b2] at d1 d2 d3 d4
  exact ⟨b1.trans (d1.mono (by omega)), d2, b3.below d1 (by omega), b4.below d1 (by omega), b5.below d1 (by omega), d3, d4⟩

/-- What firstList leaves: the state behind it, and the list if there is one. -/
def flV {S : Type} (V : S → List Int → S × Bool) (may : List Int → Bool) (sz : Int) (rs : List Int) (n : Nat) (s : S) : FL S := if isGraphB sz rs = true then flRun V may rs.length n s [] else (s, none)

set_option maxRecDepth 100000 in
set_option maxHeartbeats 2000000 in
theorem firstList_bad (sz n : Int) (rs : List Int) (ro : Option Addr) (rc Km Kh : Nat) (capsM capsH : Array Value) (w : World) (hr : IntsAt w ro rs) (hrl : rs.length ≤ 1048576) (hv : isGraphB sz rs = false) :
    Calls Tryz.prog 137 #[.agg #[.int .i64 sz, .slice ro rs.length rc], .int .i64 n, .func (.func Km) #[] capsM, .func (.func Kh) #[] capsH] w fun e w' => e = .returned (.tuple #[.slice none 0 0, .bool false]) ∧ Below w.heap.size w w' := by
  go_enter Tryz.func137, Tryz.ntmps137
  go_wp2_with fail
  generalize hW : World.alloc _ _ = W1
  obtain ⟨hB, -, -, -, -, -, -⟩ := allocs5 hW
  replace hr := hr.below hB
  clear hW
  have HhB := Lib.hid hB
  clear hB
  obtain ⟨m, hm0⟩ : ∃ m : Later W1, m.w = W1 := ⟨Later.refl _, rfl⟩
  refine (fun h => hm0 ▸ h) ?_
  clear hm0
  refine (Calls.later m (implIsGraph_any _ _ _ _ _ (hr.later m) hrl)).mono ?_
  rintro e w' ⟨rfl, m, rfl⟩
  rw [hv]
  go_wp2_with fail
  go_ret2
  exact ⟨rfl, below_later HhB.out m⟩

set_option maxRecDepth 100000 in
set_option maxHeartbeats 2000000 in
theorem firstList_any {S : Type} (V : S → List Int → S × Bool) (may : List Int → Bool) (I : S → World → Prop) (X : Nat → Prop) (rs : List Int) (ro : Option Addr) (rc n Km Kh : Nat) (capsM capsH : Array Value) (s : S) (w : World) (hr : IntsAt w ro rs) (hv : isGraphB rs.length rs = true) (hn1 : 1 ≤ n) (hn : n ≤ 7)
    (hX : ∀ b, X b → b < w.heap.size) (hEm : ∀ args w, Sem.run Tryz.prog (callFunc Km args) w = .ok (.enter Km args) w) (hEh : ∀ args w, Sem.run Tryz.prog (callFunc Kh args) w = .ok (.enter Kh args) w)
    (hMay : MayOf Km capsM X w may n) (hHolds : HoldsOf Kh capsH X w V I n) (hI : ∀ s w w', I s w → Below w.heap.size w w' → I s w') (hIs : I s w) :
    Calls Tryz.prog 137 #[.agg #[.int .i64 rs.length, .slice ro rs.length rc], .int .i64 n, .func (.func Km) #[] capsM, .func (.func Kh) #[] capsH] w fun e w' =>
      ∃ ao cap, e = .returned (.tuple #[.slice ao ((flRun V may rs.length n s []).2.getD []).length cap, .bool (flRun V may rs.length n s []).2.isSome]) ∧ Only X w.heap.size w w' ∧ I (flRun V may rs.length n s []).1 w' ∧ OwnE w' w.heap.size ao cap ((flRun V may rs.length n s []).2.getD []) := by
  have hN7 := (VG.of hv).2.le
  have q22 : ∀ (w : World) (a : Option Addr) (n c n' c' : Nat), (binOp .neq 24 (.slice a n c) (.slice none n' c')).run Tryz.prog w = .ok (.bool (!a.isNone)) w := fun w a n c n' c' => run_neq_slice_nil_any w _ _ a n c n' c' Tryz.underlying24
  have hrl : rs.length ≤ 1048576 := by omega
  have HhMay := Lib.hid hMay
  clear hMay
  have HhHolds := Lib.hid hHolds
  clear hHolds
  have HhI := Lib.hid hI
  clear hI
  have HhIs := Lib.hid hIs
  clear hIs
  have HhX := Lib.hid hX
  clear hX
  go_enter Tryz.func137, Tryz.ntmps137
  go_wp2_with fail
  generalize hW : World.alloc _ _ = W1
  obtain ⟨hB, hs, k0, k1, k2, k3, k4⟩ := allocs5 hW
  replace hr := hr.below hB
  have l4 := k4.lt
  have c4 := k4.cell 0
  simp at c4
  clear hW
  have HhB := Lib.hid hB
  clear hB
  have Hk0 := Lib.hid k0
  clear k0
  have Hk1 := Lib.hid k1
  clear k1
  have Hk2 := Lib.hid k2
  clear k2
  have Hk3 := Lib.hid k3
  clear k3
  have Hk4 := Lib.hid k4
  clear k4
  have Hhs := Lib.hid hs
  clear hs
  obtain ⟨m, hm0⟩ : ∃ m : Later W1, m.w = W1 := ⟨Later.refl _, rfl⟩
  refine (fun h => hm0 ▸ h) ?_
  clear hm0
  refine (Calls.later m (implIsGraph_any _ _ _ _ _ (hr.later m) hrl)).mono ?_
  rintro e w' ⟨rfl, m, rfl⟩
  rw [hv]
  go_wp2_with fail
  have hX1 : ∀ b, X b → b < W1.heap.size := fun b hb => by have := HhX.out b hb; have := Hhs.out; omega
  have up : ∀ m : LateX X W1, Only X w.heap.size w m.w := fun m => (Only.of HhB.out).trans (m.only.mono HhB.out.size fun _ _ h => h)
  have nx : ∀ b, w.heap.size ≤ b → ¬X b := fun b hb h => by have := HhX.out b h; omega
  have hIm : I s m.w := HhI.out _ _ _ HhIs.out (below_later HhB.out m)
  refine (flSearch_any V may I X rs ro rc n Km Kh (w.heap.size + 1) (w.heap.size + 1 + 1 + 1) w.heap.size (w.heap.size + 1 + 1) (w.heap.size + 1 + 1 + 1 + 1) capsM capsH W1 hN7 hn1 hn Hk1.out Hk3.out Hk0.out Hk2.out Hk4.out
    (nx _ (by omega)) (nx _ (by omega)) (nx _ (by omega)) (nx _ (by omega)) (nx _ (by omega)) hX1 hEm hEh
    (fun m l ao n cap h1 h2 h3 h4 h5 => HhMay.out ⟨m.w, up m⟩ l ao n cap h1 h2 h3 h4 h5) (fun m s l ao cap h1 h2 h3 h4 => HhHolds.out ⟨m.w, up m⟩ s l ao cap h1 h2 h3 h4) HhI.out
    n [] s ⟨m.w, Only.of m.below⟩ none 0 0 (by simp) rfl (fun h => absurd h (by simp)) (fun _ => rfl) (Nat.le_refl _) hIm).mono ?_
  clear hIm
  rintro e w3 ⟨ao, cap, rfl, hnn, m3, rfl, hO3, hI3, hE3⟩
  have hO : Only X w.heap.size w m3.w := up m3
  have hE : OwnE m3.w w.heap.size ao cap ((flRun V may rs.length n s []).2.getD []) := hE3.mono' HhB.out.size
  clear hX1 up nx hE3 hO3
  have HhO := Lib.hid hO
  clear hO
  have HhE := Lib.hid hE
  clear hE
  have HhI3 := Lib.hid hI3
  clear hI3
  have hb : (!ao.isNone) = (flRun V may rs.length n s []).2.isSome := by rw [hnn]; cases (flRun V may rs.length n s []).2 <;> rfl
  clear hnn
  have Hhb := Lib.hid hb
  clear hb
  go_wp2_with fail
  go_ret2
  exact ⟨ao, cap, by rw [← Hhb.out]; cases ao <;> rfl, HhO.out, HhI3.out, HhE.out⟩

/-! ### Searches without a state -/
/-- The first list for which q holds, in the order of the search. -/
def dfs (may q : List Int → Bool) (N f : Nat) (l : List Int) : Option (List Int) := (flRun (S := Unit) (fun _ l => ((), q l)) may N f () l).2
theorem unit_eq {r : FL Unit} {o : Option (List Int)} (h : r.2 = o) : r = ((), o) := by rw [← h]
theorem dfs_from (may q : List Int → Bool) (N : Nat) : ∀ f l x, dfs may q N f l = some x → q x = true ∧ ∃ t, x = l ++ t ∧ t.length = f
  | 0, l, x, h => by
    have h' : (if q l = true then some l else none) = some x := h
    split at h'
    · rename_i hq
      simp only [Option.some.injEq] at h'
      subst h'
      exact ⟨hq, [], by simp, rfl⟩
    · cases h'
  | f + 1, l, x, h => by
    have hj : ∀ j, (preF (flStep (flRun (S := Unit) (fun _ l => ((), q l)) may N f) may l) ((), none) j).1.2 = some x → q x = true ∧ ∃ t, x = l ++ t ∧ t.length = f + 1 := by
      intro j
      induction j with
      | zero => intro hx; cases hx
      | succ j ih =>
        intro hx
        rw [preF] at hx
        split at hx
        · unfold flStep flSub at hx
          dsimp only at hx
          split at hx
          · obtain ⟨h1, t, h2, h3⟩ := dfs_from may q N f _ x hx
            exact ⟨h1, (j : Int) :: t, by rw [h2]; simp, by simp [h3]⟩
          · cases hx
        · exact ih hx
    exact hj N h
/-- Whatever holds in the end held at each beginning. -/
def Nec (may q : List Int → Bool) (n : Nat) : Prop := ∀ (l : List Int) (v : Nat) (t : List Int), (l ++ [(v : Int)] ++ t).length = n → q (l ++ [(v : Int)] ++ t) = true → inB l (v : Int) = false ∧ may (l ++ [(v : Int)]) = true
theorem dfs_prune {may may' q : List Int → Bool} {n : Nat} (N : Nat) (h1 : Nec may q n) (h2 : Nec may' q n) : ∀ f l, l.length + f = n → dfs may q N f l = dfs may' q N f l
  | 0, l, _ => rfl
  | f + 1, l, hl => by
    have hrec : ∀ v : Nat, (flRun (S := Unit) (fun _ l => ((), q l)) may N f () (l ++ [(v : Int)])) = (flRun (S := Unit) (fun _ l => ((), q l)) may' N f () (l ++ [(v : Int)])) := fun v =>
      (unit_eq rfl).trans ((congrArg (fun o => ((), o)) (dfs_prune N h1 h2 f (l ++ [(v : Int)]) (by simp; omega))).trans (unit_eq rfl).symm)
    have hno : ∀ (ma : List Int → Bool) (mb : List Int → Bool) (v : Nat), Nec mb q n → ¬(inB l (v : Int) = false ∧ mb (l ++ [(v : Int)]) = true) → flRun (S := Unit) (fun _ l => ((), q l)) ma N f () (l ++ [(v : Int)]) = ((), none) := by
      intro ma mb v hb hc
      refine unit_eq ?_
      cases ho : (flRun (S := Unit) (fun _ l => ((), q l)) ma N f () (l ++ [(v : Int)])).2 with
      | none => rfl
      | some x =>
        obtain ⟨h3, t, rfl, h4⟩ := dfs_from ma q N f _ x ho
        exact absurd (hb l v t (by simp; omega) h3) hc
    have hsub : ∀ (v : Nat), flSub (flRun (S := Unit) (fun _ l => ((), q l)) may N f) may l v ((), none) = flSub (flRun (S := Unit) (fun _ l => ((), q l)) may' N f) may' l v ((), none) := by
      intro v
      unfold flSub
      by_cases c1 : inB l (v : Int) = false ∧ may (l ++ [(v : Int)]) = true
      · by_cases c2 : inB l (v : Int) = false ∧ may' (l ++ [(v : Int)]) = true
        · rw [if_pos c1, if_pos c2]; exact hrec v
        · rw [if_pos c1, if_neg c2]; exact hno may may' v h2 c2
      · by_cases c2 : inB l (v : Int) = false ∧ may' (l ++ [(v : Int)]) = true
        · rw [if_neg c1, if_pos c2]; exact (hno may' may v h1 c1).symm
        · rw [if_neg c1, if_neg c2]
    have hj : ∀ j, preF (flStep (flRun (S := Unit) (fun _ l => ((), q l)) may N f) may l) ((), none) j = preF (flStep (flRun (S := Unit) (fun _ l => ((), q l)) may' N f) may' l) ((), none) j ∧
        ((preF (flStep (flRun (S := Unit) (fun _ l => ((), q l)) may N f) may l) ((), none) j).2 = true → (preF (flStep (flRun (S := Unit) (fun _ l => ((), q l)) may N f) may l) ((), none) j).1 = ((), none)) := by
      intro j
      induction j with
      | zero => exact ⟨rfl, fun _ => rfl⟩
      | succ j ih =>
        obtain ⟨e1, e2⟩ := ih
        rw [preF, preF, ← e1]
        by_cases h : (preF (flStep (flRun (S := Unit) (fun _ l => ((), q l)) may N f) may l) ((), none) j).2 = true
        · rw [if_pos h, if_pos h, e2 h]
          have e : flStep (flRun (S := Unit) (fun _ l => ((), q l)) may N f) may l j ((), none) = flStep (flRun (S := Unit) (fun _ l => ((), q l)) may' N f) may' l j ((), none) := by unfold flStep; rw [hsub j]
          refine ⟨e, fun h3 => ?_⟩
          unfold flStep at h3 ⊢
          exact unit_eq (by simpa using h3)
        · rw [if_neg h, if_neg h]
          exact ⟨rfl, fun h3 => absurd h3 h⟩
    show (preF _ ((), none) N).1.2 = (preF _ ((), none) N).1.2
    rw [(hj N).1]
/-- Where the last step's test says what is asked in the end, nothing need be asked in the end. -/
theorem dfs_always {may q : List Int → Bool} {n : Nat} (N : Nat) (h : ∀ (l : List Int) (v : Nat), (l ++ [(v : Int)]).length = n → inB l (v : Int) = false → may (l ++ [(v : Int)]) = true → q (l ++ [(v : Int)]) = true) :
    ∀ f l, l.length + f = n → (f = 0 → q l = true) → flRun (S := Unit) (fun _ _ => ((), true)) may N f () l = flRun (S := Unit) (fun _ l => ((), q l)) may N f () l
  | 0, l, _, h0 => by show ((), if true = true then some l else none) = ((), if q l = true then some l else none); rw [if_pos rfl, if_pos (h0 rfl)]
  | f + 1, l, hl, _ => by
    have e : flStep (flRun (S := Unit) (fun _ _ => ((), true)) may N f) may l = flStep (flRun (S := Unit) (fun _ l => ((), q l)) may N f) may l := by
      funext v t
      unfold flStep
      have : flSub (flRun (S := Unit) (fun _ _ => ((), true)) may N f) may l v t = flSub (flRun (S := Unit) (fun _ l => ((), q l)) may N f) may l v t := by
        unfold flSub
        by_cases c : inB l (v : Int) = false ∧ may (l ++ [(v : Int)]) = true
        · rw [if_pos c, if_pos c]
          exact dfs_always N h f _ (by simp; omega) (fun hf => h l v (by simp; omega) c.1 c.2)
        · rw [if_neg c, if_neg c]
      rw [this]
    show (preF _ ((), none) N).1 = (preF _ ((), none) N).1
    rw [e]

/-- What a function hands back that finds a list: in memory of its own. -/
def RetO (w : World) (s : Option (List Int)) (e : Ending) (w' : World) : Prop := ∃ ao cap, e = .returned (.tuple #[.slice ao (s.getD []).length cap, .bool s.isSome]) ∧ Below w.heap.size w w' ∧ OwnE w' w.heap.size ao cap (s.getD [])
/-- The same, wherever the list stands. -/
def RetI (w : World) (s : Option (List Int)) (e : Ending) (w' : World) : Prop := ∃ ao cap, e = .returned (.tuple #[.slice ao (s.getD []).length cap, .bool s.isSome]) ∧ Below w.heap.size w w' ∧ IntsAt w' ao (s.getD [])
/-- What a search hands back at some depth: behind 'false' whatever list. -/
def RetD (w : World) (f : Nat) (s : Option (List Int)) (e : Ending) (w' : World) : Prop := ∃ ao cap xs, e = .returned (.tuple #[.slice ao xs.length cap, .bool s.isSome]) ∧ Below w.heap.size w w' ∧ IntsAt w' ao xs ∧ (∀ x, s = some x → xs = x) ∧ (1 ≤ f → s = none → xs = [])
theorem RetD.top {w : World} {f : Nat} {s : Option (List Int)} {e : Ending} {w' : World} (h : RetD w f s e w') (hf : 1 ≤ f) : RetI w s e w' := by
  obtain ⟨ao, cap, xs, h1, h2, h3, h4, h5⟩ := h
  have e2 : xs = s.getD [] := by
    cases s with
    | none => exact h5 hf rfl
    | some x => exact h4 x rfl
  exact ⟨ao, cap, by rw [h1, e2], h2, e2 ▸ h3⟩
theorem dfs_len {may q : List Int → Bool} {N n : Nat} {f : Nat} {l : List Int} (h : l.length + f = n) : ((dfs may q N f l).getD []).length ≤ n := by
  cases ho : dfs may q N f l with
  | none => simp
  | some x =>
    obtain ⟨-, t, rfl, h4⟩ := dfs_from may q N f l x ho
    simp; omega
theorem dfs_none {may q : List Int → Bool} {N f : Nat} {l : List Int} (h : preF (flStep (flRun (S := Unit) (fun _ l => ((), q l)) may N f) may l) ((), none) N = (((), none), true)) : dfs may q N (f + 1) l = none := by
  show (preF _ ((), none) N).1.2 = none; rw [h]
theorem dfs_hit {may q : List Int → Bool} {N f j : Nat} {l x : List Int} (hj : j < N) (h : preF (flStep (flRun (S := Unit) (fun _ l => ((), q l)) may N f) may l) ((), none) (j + 1) = (((), some x), false)) : dfs may q N (f + 1) l = some x := by
  show (preF _ ((), none) N).1.2 = some x; rw [preF_stop (j := j + 1) (by rw [h]) N (by omega), h]
theorem flStep_dfs {may q : List Int → Bool} {N f : Nat} {l : List Int} {v : Nat} {o : Option (List Int)} (h1 : inB l (v : Int) = false) (h2 : may (l ++ [(v : Int)]) = true) (h3 : dfs may q N f (l ++ [(v : Int)]) = o) : flStep (flRun (S := Unit) (fun _ l => ((), q l)) may N f) may l v ((), none) = (((), o), o.isNone) :=
  flStep_go h1 h2 (unit_eq h3)

theorem gi_left {a b : List Int} {k : Nat} (h : k < a.length) : gi (a ++ b) k = gi a k := by
  have h2 : k < (a ++ b).length := by simp; omega
  simp [gi, List.getElem?_append_left h]
theorem gi_mid {l t : List Int} {v : Int} : gi (l ++ [v] ++ t) l.length = v := by simp [gi]
theorem gi_last {l : List Int} {v : Int} : gi (l ++ [v]) l.length = v := by simp [gi]

end Go.Proofs.YtjikmjhpmkakoaaGreatDoor
