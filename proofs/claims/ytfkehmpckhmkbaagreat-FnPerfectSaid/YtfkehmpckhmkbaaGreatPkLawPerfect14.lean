/-
  firstList of the program, for whatever two functions; what a search with one pruning or another finds. For at most 2^20 rows.
  What searches hand back: the list fits its room. No conditions.
  The search for holes of the reference, and what both sides find. For at most 2^20 rows.
-/
import Derived.Test.YtfkehmpckhmkbaaGreatPkLawPerfect13
import Derived.Test.YtfkehmpckhmkbaaGreatPkLawPerfect03
import Derived.Test.YtfkehmpckhmkbaaGreatPkLawPerfect12
namespace Go.Proofs.YtfkehmpckhmkbaaGreat
open Go.RowKit

theorem allocs5 {w W1 : World} {c0 c1 c2 c3 c4 : Array Value} {T0 T1 T2 T3 T4 : TypeId} (h : (((((w.alloc (.cells c0 T0)).alloc (.cells c1 T1)).alloc (.cells c2 T2)).alloc (.cells c3 T3)).alloc (.cells c4 T4)) = W1) :
    Below w.heap.size w W1 ∧ W1.heap.size = w.heap.size + 5 ∧ Blk W1 w.heap.size c0 T0 ∧ Blk W1 (w.heap.size + 1) c1 T1 ∧ Blk W1 (w.heap.size + 1 + 1) c2 T2 ∧ Blk W1 (w.heap.size + 1 + 1 + 1) c3 T3 ∧ Blk W1 (w.heap.size + 1 + 1 + 1 + 1) c4 T4 := by
  obtain ⟨U, hU⟩ : ∃ U, (((w.alloc (.cells c0 T0)).alloc (.cells c1 T1)).alloc (.cells c2 T2)) = U := ⟨_, rfl⟩
  obtain ⟨b1, b2, b3, b4, b5⟩ := alloc3 hU
  rw [hU] at h
  obtain ⟨d1, d2, d3, d4⟩ := alloc2 h
  rw [b2] at d1 d2 d3 d4
  exact ⟨b1.trans (d1.mono (by omega)), d2, b3.below d1 (by omega), b4.below d1 (by omega), b5.below d1 (by omega), d3, d4⟩

/-- What firstList leaves: the state behind it, and the list if there is one. -/
def flV {S : Type} (V : S → List Int → S × Bool) (may : List Int → Bool) (sz : Int) (rs : List Int) (n : Nat) (s : S) : FL S := if isGraphB sz rs = true then flRun V may rs.length n s [] else (s, none)

set_option maxRecDepth 100000 in
set_option maxHeartbeats 2000000 in
theorem firstList_bad (sz n : Int) (rs : List Int) (ro : Option Addr) (rc Km Kh : Nat) (capsM capsH : Array Value) (w : World) (hr : IntsAt w ro rs) (hrl : rs.length ≤ 1048576) (hv : isGraphB sz rs = false) :
    Calls Tryz.prog 53 #[.agg #[.int .i64 sz, .slice ro rs.length rc], .int .i64 n, .func (.func Km) #[] capsM, .func (.func Kh) #[] capsH] w fun e w' => e = .returned (.tuple #[.slice none 0 0, .bool false]) ∧ Below w.heap.size w w' := by
  go_enter Tryz.func53, Tryz.ntmps53
  go_wp2_with fail
  generalize hW : World.alloc _ _ = W1
  obtain ⟨hB, -, -, -, -, -, -⟩ := allocs5 hW
  replace hr := hr.below hB
  clear hW
  have HhB := Lib.hid hB
  clear hB
  obtain ⟨m, hm0⟩ : ∃ m : Later W1, m.w = W1 := ⟨Later.refl _, rfl⟩
  refine (fun h => hm0 ▸ h) ?_
  clear hm0
  refine (Calls.later m (implIsGraph_any _ _ _ _ _ (hr.later m) hrl)).mono ?_
  rintro e w' ⟨rfl, m, rfl⟩
  rw [hv]
  go_wp2_with fail
  go_ret2
  exact ⟨rfl, below_later HhB.out m⟩

set_option maxRecDepth 100000 in
set_option maxHeartbeats 2000000 in
theorem firstList_any {S : Type} (V : S → List Int → S × Bool) (may : List Int → Bool) (I : S → World → Prop) (X : Nat → Prop) (rs : List Int) (ro : Option Addr) (rc n Km Kh : Nat) (capsM capsH : Array Value) (s : S) (w : World) (hr : IntsAt w ro rs) (hv : isGraphB rs.length rs = true) (hn1 : 1 ≤ n) (hn : n ≤ 7)
    (hX : ∀ b, X b → b < w.heap.size) (hEm : ∀ args w, Sem.run Tryz.prog (callFunc Km args) w = .ok (.enter Km args) w) (hEh : ∀ args w, Sem.run Tryz.prog (callFunc Kh args) w = .ok (.enter Kh args) w)
    (hMay : MayOf Km capsM X w may n) (hHolds : HoldsOf Kh capsH X w V I n) (hI : ∀ s w w', I s w → Below w.heap.size w w' → I s w') (hIs : I s w) :
    Calls Tryz.prog 53 #[.agg #[.int .i64 rs.length, .slice ro rs.length rc], .int .i64 n, .func (.func Km) #[] capsM, .func (.func Kh) #[] capsH] w fun e w' =>
      ∃ ao cap, e = .returned (.tuple #[.slice ao ((flRun V may rs.length n s []).2.getD []).length cap, .bool (flRun V may rs.length n s []).2.isSome]) ∧ Only X w.heap.size w w' ∧ I (flRun V may rs.length n s []).1 w' ∧ OwnE w' w.heap.size ao cap ((flRun V may rs.length n s []).2.getD []) := by
  have hN7 := (VG.of hv).2.le
  have q22 : ∀ (w : World) (a : Option Addr) (n c n' c' : Nat), (binOp .neq 24 (.slice a n c) (.slice none n' c')).run Tryz.prog w = .ok (.bool (!a.isNone)) w := fun w a n c n' c' => run_neq_slice_nil_any w _ _ a n c n' c' Tryz.underlying24
  have hrl : rs.length ≤ 1048576 := by omega
  have HhMay := Lib.hid hMay
  clear hMay
  have HhHolds := Lib.hid hHolds
  clear hHolds
  have HhI := Lib.hid hI
  clear hI
  have HhIs := Lib.hid hIs
  clear hIs
  have HhX := Lib.hid hX
  clear hX
  go_enter Tryz.func53, Tryz.ntmps53
  go_wp2_with fail
  generalize hW : World.alloc _ _ = W1
  obtain ⟨hB, hs, k0, k1, k2, k3, k4⟩ := allocs5 hW
  replace hr := hr.below hB
  have l4 := k4.lt
  have c4 := k4.cell 0
  simp at c4
  clear hW
  have HhB := Lib.hid hB
  clear hB
  have Hk0 := Lib.hid k0
  clear k0
  have Hk1 := Lib.hid k1
  clear k1
  have Hk2 := Lib.hid k2
  clear k2
  have Hk3 := Lib.hid k3
  clear k3
  have Hk4 := Lib.hid k4
  clear k4
  have Hhs := Lib.hid hs
  clear hs
  obtain ⟨m, hm0⟩ : ∃ m : Later W1, m.w = W1 := ⟨Later.refl _, rfl⟩
  refine (fun h => hm0 ▸ h) ?_
  clear hm0
  refine (Calls.later m (implIsGraph_any _ _ _ _ _ (hr.later m) hrl)).mono ?_
  rintro e w' ⟨rfl, m, rfl⟩
  rw [hv]
  go_wp2_with fail
  have hX1 : ∀ b, X b → b < W1.heap.size := fun b hb => by have := HhX.out b hb; have := Hhs.out; omega
  have up : ∀ m : LateX X W1, Only X w.heap.size w m.w := fun m => (Only.of HhB.out).trans (m.only.mono HhB.out.size fun _ _ h => h)
  have nx : ∀ b, w.heap.size ≤ b → ¬X b := fun b hb h => by have := HhX.out b h; omega
  have hIm : I s m.w := HhI.out _ _ _ HhIs.out (below_later HhB.out m)
  refine (flSearch_any V may I X rs ro rc n Km Kh (w.heap.size + 1) (w.heap.size + 1 + 1 + 1) w.heap.size (w.heap.size + 1 + 1) (w.heap.size + 1 + 1 + 1 + 1) capsM capsH W1 hN7 hn1 hn Hk1.out Hk3.out Hk0.out Hk2.out Hk4.out
    (nx _ (by omega)) (nx _ (by omega)) (nx _ (by omega)) (nx _ (by omega)) (nx _ (by omega)) hX1 hEm hEh
    (fun m l ao n cap h1 h2 h3 h4 h5 => HhMay.out ⟨m.w, up m⟩ l ao n cap h1 h2 h3 h4 h5) (fun m s l ao cap h1 h2 h3 h4 => HhHolds.out ⟨m.w, up m⟩ s l ao cap h1 h2 h3 h4) HhI.out
    n [] s ⟨m.w, Only.of m.below⟩ none 0 0 (by simp) rfl (fun h => absurd h (by simp)) (fun _ => rfl) (Nat.le_refl _) hIm).mono ?_
  clear hIm
  rintro e w3 ⟨ao, cap, rfl, hnn, m3, rfl, hO3, hI3, hE3⟩
  have hO : Only X w.heap.size w m3.w := up m3
  have hE : OwnE m3.w w.heap.size ao cap ((flRun V may rs.length n s []).2.getD []) := hE3.mono' HhB.out.size
  clear hX1 up nx hE3 hO3
  have HhO := Lib.hid hO
  clear hO
  have HhE := Lib.hid hE
  clear hE
  have HhI3 := Lib.hid hI3
  clear hI3
  have hb : (!ao.isNone) = (flRun V may rs.length n s []).2.isSome := by rw [hnn]; cases (flRun V may rs.length n s []).2 <;> rfl
  clear hnn
  have Hhb := Lib.hid hb
  clear hb
  go_wp2_with fail
  go_ret2
  exact ⟨ao, cap, by rw [← Hhb.out]; cases ao <;> rfl, HhO.out, HhI3.out, HhE.out⟩

/-! ### Searches without a state -/
/-- The first list for which q holds, in the order of the search. -/
def dfs (may q : List Int → Bool) (N f : Nat) (l : List Int) : Option (List Int) := (flRun (S := Unit) (fun _ l => ((), q l)) may N f () l).2
theorem unit_eq {r : FL Unit} {o : Option (List Int)} (h : r.2 = o) : r = ((), o) := by rw [← h]
theorem dfs_from (may q : List Int → Bool) (N : Nat) : ∀ f l x, dfs may q N f l = some x → q x = true ∧ ∃ t, x = l ++ t ∧ t.length = f
  | 0, l, x, h => by
    have h' : (if q l = true then some l else none) = some x := h
    split at h'
    · rename_i hq
      simp only [Option.some.injEq] at h'
      subst h'
      exact ⟨hq, [], by simp, rfl⟩
    · cases h'
  | f + 1, l, x, h => by
    have hj : ∀ j, (preF (flStep (flRun (S := Unit) (fun _ l => ((), q l)) may N f) may l) ((), none) j).1.2 = some x → q x = true ∧ ∃ t, x = l ++ t ∧ t.length = f + 1 := by
      intro j
      induction j with
      | zero => intro hx; cases hx
      | succ j ih =>
        intro hx
        rw [preF] at hx
        split at hx
        · unfold flStep flSub at hx
          dsimp only at hx
          split at hx
          · obtain ⟨h1, t, h2, h3⟩ := dfs_from may q N f _ x hx
            exact ⟨h1, (j : Int) :: t, by rw [h2]; simp, by simp [h3]⟩
          · cases hx
        · exact ih hx
    exact hj N h
/-- Whatever holds in the end held at each beginning. -/
def Nec (may q : List Int → Bool) (n : Nat) : Prop := ∀ (l : List Int) (v : Nat) (t : List Int), (l ++ [(v : Int)] ++ t).length = n → q (l ++ [(v : Int)] ++ t) = true → inB l (v : Int) = false ∧ may (l ++ [(v : Int)]) = true
theorem dfs_prune {may may' q : List Int → Bool} {n : Nat} (N : Nat) (h1 : Nec may q n) (h2 : Nec may' q n) : ∀ f l, l.length + f = n → dfs may q N f l = dfs may' q N f l
  | 0, l, _ => rfl
  | f + 1, l, hl => by
    have hrec : ∀ v : Nat, (flRun (S := Unit) (fun _ l => ((), q l)) may N f () (l ++ [(v : Int)])) = (flRun (S := Unit) (fun _ l => ((), q l)) may' N f () (l ++ [(v : Int)])) := fun v =>
      (unit_eq rfl).trans ((congrArg (fun o => ((), o)) (dfs_prune N h1 h2 f (l ++ [(v : Int)]) (by simp; omega))).trans (unit_eq rfl).symm)
    have hno : ∀ (ma : List Int → Bool) (mb : List Int → Bool) (v : Nat), Nec mb q n → ¬(inB l (v : Int) = false ∧ mb (l ++ [(v : Int)]) = true) → flRun (S := Unit) (fun _ l => ((), q l)) ma N f () (l ++ [(v : Int)]) = ((), none) := by
      intro ma mb v hb hc
      refine unit_eq ?_
      cases ho : (flRun (S := Unit) (fun _ l => ((), q l)) ma N f () (l ++ [(v : Int)])).2 with
      | none => rfl
      | some x =>
        obtain ⟨h3, t, rfl, h4⟩ := dfs_from ma q N f _ x ho
        exact absurd (hb l v t (by simp; omega) h3) hc
    have hsub : ∀ (v : Nat), flSub (flRun (S := Unit) (fun _ l => ((), q l)) may N f) may l v ((), none) = flSub (flRun (S := Unit) (fun _ l => ((), q l)) may' N f) may' l v ((), none) := by
      intro v
      unfold flSub
      by_cases c1 : inB l (v : Int) = false ∧ may (l ++ [(v : Int)]) = true
      · by_cases c2 : inB l (v : Int) = false ∧ may' (l ++ [(v : Int)]) = true
        · rw [if_pos c1, if_pos c2]; exact hrec v
        · rw [if_pos c1, if_neg c2]; exact hno may may' v h2 c2
      · by_cases c2 : inB l (v : Int) = false ∧ may' (l ++ [(v : Int)]) = true
        · rw [if_neg c1, if_pos c2]; exact (hno may' may v h1 c1).symm
        · rw [if_neg c1, if_neg c2]
    have hj : ∀ j, preF (flStep (flRun (S := Unit) (fun _ l => ((), q l)) may N f) may l) ((), none) j = preF (flStep (flRun (S := Unit) (fun _ l => ((), q l)) may' N f) may' l) ((), none) j ∧
        ((preF (flStep (flRun (S := Unit) (fun _ l => ((), q l)) may N f) may l) ((), none) j).2 = true → (preF (flStep (flRun (S := Unit) (fun _ l => ((), q l)) may N f) may l) ((), none) j).1 = ((), none)) := by
      intro j
      induction j with
      | zero => exact ⟨rfl, fun _ => rfl⟩
      | succ j ih =>
        obtain ⟨e1, e2⟩ := ih
        rw [preF, preF, ← e1]
        by_cases h : (preF (flStep (flRun (S := Unit) (fun _ l => ((), q l)) may N f) may l) ((), none) j).2 = true
        · rw [if_pos h, if_pos h, e2 h]
          have e : flStep (flRun (S := Unit) (fun _ l => ((), q l)) may N f) may l j ((), none) = flStep (flRun (S := Unit) (fun _ l => ((), q l)) may' N f) may' l j ((), none) := by unfold flStep; rw [hsub j]
          refine ⟨e, fun h3 => ?_⟩
          unfold flStep at h3 ⊢
          exact unit_eq (by simpa using h3)
        · rw [if_neg h, if_neg h]
          exact ⟨rfl, fun h3 => absurd h3 h⟩
    show (preF _ ((), none) N).1.2 = (preF _ ((), none) N).1.2
    rw [(hj N).1]
/-- Where the last step's test says what is asked in the end, nothing need be asked in the end. -/
theorem dfs_always {may q : List Int → Bool} {n : Nat} (N : Nat) (h : ∀ (l : List Int) (v : Nat), (l ++ [(v : Int)]).length = n → inB l (v : Int) = false → may (l ++ [(v : Int)]) = true → q (l ++ [(v : Int)]) = true) :
    ∀ f l, l.length + f = n → (f = 0 → q l = true) → flRun (S := Unit) (fun _ _ => ((), true)) may N f () l = flRun (S := Unit) (fun _ l => ((), q l)) may N f () l
  | 0, l, _, h0 => by show ((), if true = true then some l else none) = ((), if q l = true then some l else none); rw [if_pos rfl, if_pos (h0 rfl)]
  | f + 1, l, hl, _ => by
    have e : flStep (flRun (S := Unit) (fun _ _ => ((), true)) may N f) may l = flStep (flRun (S := Unit) (fun _ l => ((), q l)) may N f) may l := by
      funext v t
      unfold flStep
      have : flSub (flRun (S := Unit) (fun _ _ => ((), true)) may N f) may l v t = flSub (flRun (S := Unit) (fun _ l => ((), q l)) may N f) may l v t := by
        unfold flSub
        by_cases c : inB l (v : Int) = false ∧ may (l ++ [(v : Int)]) = true
        · rw [if_pos c, if_pos c]
          exact dfs_always N h f _ (by simp; omega) (fun hf => h l v (by simp; omega) c.1 c.2)
        · rw [if_neg c, if_neg c]
      rw [this]
    show (preF _ ((), none) N).1 = (preF _ ((), none) N).1
    rw [e]

/-- What a function hands back that finds a list: in memory of its own. -/
def RetO (w : World) (s : Option (List Int)) (e : Ending) (w' : World) : Prop := ∃ ao cap, e = .returned (.tuple #[.slice ao (s.getD []).length cap, .bool s.isSome]) ∧ Below w.heap.size w w' ∧ OwnE w' w.heap.size ao cap (s.getD [])
/-- The same, wherever the list stands. -/
def RetI (w : World) (s : Option (List Int)) (e : Ending) (w' : World) : Prop := ∃ ao cap, e = .returned (.tuple #[.slice ao (s.getD []).length cap, .bool s.isSome]) ∧ Below w.heap.size w w' ∧ IntsAt w' ao (s.getD [])
/-- What a search hands back at some depth: behind 'false' whatever list. -/
def RetD (w : World) (f : Nat) (s : Option (List Int)) (e : Ending) (w' : World) : Prop := ∃ ao cap xs, e = .returned (.tuple #[.slice ao xs.length cap, .bool s.isSome]) ∧ Below w.heap.size w w' ∧ IntsAt w' ao xs ∧ (∀ x, s = some x → xs = x) ∧ (1 ≤ f → s = none → xs = [])
theorem RetD.top {w : World} {f : Nat} {s : Option (List Int)} {e : Ending} {w' : World} (h : RetD w f s e w') (hf : 1 ≤ f) : RetI w s e w' := by
  obtain ⟨ao, cap, xs, h1, h2, h3, h4, h5⟩ := h
  have e2 : xs = s.getD [] := by
    cases s with
    | none => exact h5 hf rfl
    | some x => exact h4 x rfl
  exact ⟨ao, cap, by rw [h1, e2], h2, e2 ▸ h3⟩
theorem dfs_len {may q : List Int → Bool} {N n : Nat} {f : Nat} {l : List Int} (h : l.length + f = n) : ((dfs may q N f l).getD []).length ≤ n := by
  cases ho : dfs may q N f l with
  | none => simp
  | some x =>
    obtain ⟨-, t, rfl, h4⟩ := dfs_from may q N f l x ho
    simp; omega
theorem dfs_none {may q : List Int → Bool} {N f : Nat} {l : List Int} (h : preF (flStep (flRun (S := Unit) (fun _ l => ((), q l)) may N f) may l) ((), none) N = (((), none), true)) : dfs may q N (f + 1) l = none := by
  show (preF _ ((), none) N).1.2 = none; rw [h]
theorem dfs_hit {may q : List Int → Bool} {N f j : Nat} {l x : List Int} (hj : j < N) (h : preF (flStep (flRun (S := Unit) (fun _ l => ((), q l)) may N f) may l) ((), none) (j + 1) = (((), some x), false)) : dfs may q N (f + 1) l = some x := by
  show (preF _ ((), none) N).1.2 = some x; rw [preF_stop (j := j + 1) (by rw [h]) N (by omega), h]
theorem flStep_dfs {may q : List Int → Bool} {N f : Nat} {l : List Int} {v : Nat} {o : Option (List Int)} (h1 : inB l (v : Int) = false) (h2 : may (l ++ [(v : Int)]) = true) (h3 : dfs may q N f (l ++ [(v : Int)]) = o) : flStep (flRun (S := Unit) (fun _ l => ((), q l)) may N f) may l v ((), none) = (((), o), o.isNone) :=
  flStep_go h1 h2 (unit_eq h3)

theorem gi_left {a b : List Int} {k : Nat} (h : k < a.length) : gi (a ++ b) k = gi a k := by
  have h2 : k < (a ++ b).length := by simp; omega
  simp [gi, List.getElem?_append_left h]
theorem gi_mid {l t : List Int} {v : Int} : gi (l ++ [v] ++ t) l.length = v := by simp [gi]
theorem gi_last {l : List Int} {v : Int} : gi (l ++ [v]) l.length = v := by simp [gi]

end Go.Proofs.YtfkehmpckhmkbaaGreat

namespace Go.Proofs.YtfkehmpckhmkbaaGreat
open Go.RowKit

theorem OwnE.cap_le {w : World} {base cap : Nat} {ao : Option Addr} {xs : List Int} (h : OwnE w base ao cap xs) : xs.length ≤ cap := by
  by_cases h0 : 0 < xs.length
  · obtain ⟨g, -, -, cur, -, hn, -⟩ := h.row h0
    exact hn
  · omega
/-- As RetD, RetI; and the list fits its room. -/
def RetDC (w : World) (f : Nat) (s : Option (List Int)) (e : Ending) (w' : World) : Prop := ∃ ao cap xs, e = .returned (.tuple #[.slice ao xs.length cap, .bool s.isSome]) ∧ Below w.heap.size w w' ∧ IntsAt w' ao xs ∧ (∀ x, s = some x → xs = x) ∧ (1 ≤ f → s = none → xs = []) ∧ xs.length ≤ cap
def RetIC (w : World) (s : Option (List Int)) (e : Ending) (w' : World) : Prop := ∃ ao cap, e = .returned (.tuple #[.slice ao (s.getD []).length cap, .bool s.isSome]) ∧ Below w.heap.size w w' ∧ IntsAt w' ao (s.getD []) ∧ (s.getD []).length ≤ cap
theorem RetDC.top {w w' : World} {f : Nat} {s : Option (List Int)} {e : Ending} (h : RetDC w f s e w') (hf : 1 ≤ f) : RetIC w s e w' := by
  obtain ⟨ao, cap, xs, rfl, h1, h2, h3, h4, h5⟩ := h
  cases s with
  | none => obtain rfl := h4 hf rfl; exact ⟨ao, cap, rfl, h1, h2, h5⟩
  | some x => obtain rfl := h3 x rfl; exact ⟨ao, cap, rfl, h1, h2, h5⟩
theorem RetIC.ret {w w' : World} {s : Option (List Int)} {e : Ending} (h : RetIC w s e w') : RetI w s e w' := by
  obtain ⟨ao, cap, h1, h2, h3, -⟩ := h
  exact ⟨ao, cap, h1, h2, h3⟩

end Go.Proofs.YtfkehmpckhmkbaaGreat

namespace Go.Proofs.YtfkehmpckhmkbaaGreat
open Go.RowKit

theorem verts_head {n : Int} {rs a b : List Int} (h : vertsB n rs (a ++ b) = true) : vertsB n rs a = true := by
  rw [vertsB_true] at h ⊢
  refine ⟨h.1, fun j hj => ?_⟩
  obtain ⟨h1, h2⟩ := h.2 j (by simp; omega)
  rw [gi_left hj] at h1
  refine ⟨h1, fun i hi => ?_⟩
  have := h2 i hi
  rwa [gi_left hj, gi_left (by omega)] at this
theorem verts_new {n : Int} {rs l t : List Int} {v : Nat} (h : vertsB n rs (l ++ [(v : Int)] ++ t) = true) : inB l (v : Int) = false := by
  rw [← Bool.not_eq_true, inB_true]
  rintro ⟨j, hj, e⟩
  rw [vertsB_true] at h
  have := (h.2 l.length (by simp)).2 j hj
  rw [gi_mid, List.append_assoc, gi_left hj] at this
  exact this e
theorem joinB_iff {n : Int} {rs l : List Int} {pat : Nat → Nat → Bool} : joinB n rs l pat = true ↔ vertsB n rs l = true ∧ ∀ i, i < l.length → ∀ j, j < i → joinedAt rs l pat i j = true := by
  unfold joinB; rw [Bool.and_eq_true, decide_eq_true_eq]
theorem holeB_join {n : Int} {rs l : List Int} (h : holeB n rs l = true) : joinB n rs l (holeP l.length) = true := by unfold holeB at h; rw [Bool.and_eq_true] at h; exact h.2
/-- A proper beginning of a hole is an induced path. -/
theorem hole_path {n : Int} {rs x t : List Int} (h : holeB n rs (x ++ t) = true) (h0 : 0 < x.length) (ht : 0 < t.length) : pathB n rs x = true := by
  have hj := joinB_iff.1 (holeB_join h)
  unfold pathB
  rw [decide_eq_true h0, Bool.true_and, joinB_iff]
  refine ⟨verts_head hj.1, fun i hi j hji => ?_⟩
  have e := hj.2 i (by simp; omega) j hji
  unfold joinedAt at e ⊢
  rw [gi_left (by omega), gi_left (by omega)] at e
  have hp : holeP (x ++ t).length j i = pathP j i := by
    unfold holeP pathP
    rw [decide_eq_false (p := i = (x ++ t).length - 1) (by simp; omega), Bool.and_false, Bool.or_false]
  rw [hp] at e
  exact e
theorem path_verts {n : Int} {rs l : List Int} (h : pathB n rs l = true) : vertsB n rs l = true := by unfold pathB at h; rw [Bool.and_eq_true] at h; exact (joinB_iff.1 h.2).1

/-! ### The searches -/
def mayS (rs : List Int) (k : Nat) (x : List Int) : Bool := pathB rs.length rs x || (decide (x.length = k) && holeB rs.length rs x)
def mayI (rs : List Int) (k : Nat) (x : List Int) : Bool := decide (x.length = k) || pathB rs.length rs x
theorem nec_mayS (rs : List Int) (k : Nat) : Nec (mayS rs k) (fun l => holeB rs.length rs l) k := fun l v t hk h => by
  refine ⟨verts_new (joinB_iff.1 (holeB_join h)).1, ?_⟩
  unfold mayS
  by_cases ht : 0 < t.length
  · rw [hole_path h (by simp) ht]; rfl
  · obtain rfl : t = [] := List.eq_nil_of_length_eq_zero (by omega)
    rw [List.append_nil] at h hk
    have h' : holeB rs.length rs (l ++ [(v : Int)]) = true := h
    rw [decide_eq_true hk, h', Bool.true_and, Bool.or_true]
theorem nec_mayI (rs : List Int) (k : Nat) : Nec (mayI rs k) (fun l => holeB rs.length rs l) k := fun l v t hk h => by
  refine ⟨verts_new (joinB_iff.1 (holeB_join h)).1, ?_⟩
  unfold mayI
  by_cases ht : 0 < t.length
  · rw [hole_path h (by simp) ht, Bool.or_true]
  · obtain rfl : t = [] := List.eq_nil_of_length_eq_zero (by omega)
    rw [List.append_nil] at hk
    rw [decide_eq_true hk]; rfl
theorem mayS_new {rs l : List Int} {k v : Nat} (h : mayS rs k (l ++ [(v : Int)]) = true) : inB l (v : Int) = false := by
  have hv : vertsB rs.length rs (l ++ [(v : Int)]) = true := by
    unfold mayS at h
    rw [Bool.or_eq_true, Bool.and_eq_true] at h
    rcases h with h | h
    · exact path_verts h
    · exact (joinB_iff.1 (holeB_join h.2)).1
  have := verts_new (t := []) (l := l) (v := v) (by rw [List.append_nil]; exact hv)
  exact this
/-- The first hole of k vertices. -/
def holeAt (rs : List Int) (k : Nat) : Option (List Int) := dfs (mayI rs k) (fun l => holeB rs.length rs l) rs.length k []
theorem holeAt_spec (rs : List Int) (k : Nat) : holeAt rs k = dfs (mayS rs k) (fun l => holeB rs.length rs l) rs.length k [] := dfs_prune (n := k) rs.length (nec_mayI rs k) (nec_mayS rs k) k [] (by simp)

set_option maxRecDepth 100000 in
set_option maxHeartbeats 4000000 in
theorem l4Search_any (rs : List Int) (ro : Option Addr) (rc : Nat) (hv : isGraphB rs.length rs = true) (kk : Nat) (hk7 : kk ≤ 7) : ∀ (f : Nat) (l : List Int) (n lc : Nat) (la : Addr) (w : World), l.length + f = kk → n = l.length → n ≤ lc → IntsAt w ro rs → IntsAt w (some la) l →
    Calls Tryz.prog 55 #[.agg #[.int .i64 rs.length, .slice ro rs.length rc], .slice (some la) n lc, .int .i64 kk, .bool true] w (RetDC w f (dfs (mayS rs kk) (fun l => holeB rs.length rs l) rs.length f l)) := by
  have g := (VG.of hv).2
  have hg1 := g.pos
  have hg2 := g.le
  intro f
  induction f with
  | zero =>
    intro l n lc la w hlf hn hnc hr hl
    subst hn
    have HC := Lib.hid hnc
    clear hnc
    have hN : ((l.length : Int) == (kk : Int)) = true := by rw [beq_iff_eq]; omega
    have HD : Hid (dfs (mayS rs kk) (fun l => holeB rs.length rs l) rs.length 0 l = if holeB rs.length rs l = true then some l else none) := rfl
    have Hhlf := Lib.hid hlf
    clear hlf
    go_enter Tryz.func55, Tryz.ntmps55
    go_wp2_with fail
    generalize hW : w.alloc _ = W1
    obtain ⟨hB, -, k0⟩ := alloc1 hW
    replace hr := hr.below hB
    replace hl := hl.below hB
    have hb0 := k0.lt
    have hc0 := k0.cell 0
    have hc1 := k0.cell 1
    simp at hc0 hc1
    clear hW k0
    have HhB := Lib.hid hB
    clear hB
    obtain ⟨m, hm0⟩ : ∃ m : Later W1, m.w = W1 := ⟨Later.refl _, rfl⟩
    refine (fun h => hm0 ▸ h) ?_
    clear hm0
    go_wp2_with (first | (go_at_call 58; refine (Calls.later m (specIsHole_any _ _ _ _ _ _ _ _ (hr.later m) (by omega) (hl.later m) (by have := Hhlf.out; omega))).mono ?_; rintro e w' ⟨rfl, m, rfl⟩))
    go_ret2
    rw [HD.out]
    refine ⟨some la, lc, l, ?_, below_later HhB.out m, hl.later m, ?_, fun h => absurd h (by omega), HC.out⟩
    · cases holeB rs.length rs l <;> rfl
    · intro x hx
      split at hx
      · exact Option.some.inj hx
      · cases hx
  | succ f ih =>
    intro l n lc la w hlf hn hnc hr hl
    subst hn
    clear hnc
    have hN : ((l.length : Int) == (kk : Int)) = false := by rw [beq_eq_false_iff_ne]; omega
    have hl5 : l.length ≤ 6 := by omega
    have Hih := Lib.hid ih
    clear ih
    have Hhlf := Lib.hid hlf
    clear hlf
    go_enter Tryz.func55, Tryz.ntmps55
    go_wp2_with fail
    generalize hW : w.alloc _ = W1
    obtain ⟨hB, -, k0⟩ := alloc1 hW
    replace hr := hr.below hB
    replace hl := hl.below hB
    have hb0 := k0.lt
    have hc0 := k0.cell 0
    have hc1 := k0.cell 1
    simp at hc0 hc1
    clear hW k0
    have HhB := Lib.hid hB
    clear hB
    obtain ⟨m, hm0⟩ : ∃ m : Later W1, m.w = W1 := ⟨Later.refl _, rfl⟩
    refine (fun h => hm0 ▸ h) ?_
    clear hm0
    go_wp2_with fail
    go_loopw [10] (fun i wr => (∃ m : Later W1, wr = m.w) ∧ ∃ j : Nat, j ≤ rs.length ∧ i = .int .i64 j ∧ preF (flStep (flRun (S := Unit) (fun _ l => ((), holeB rs.length rs l)) (mayS rs kk) rs.length f) (mayS rs kk) l) ((), none) j = (((), none), true)) (fun i _ => rs.length - (intOf i).toNat)
    case atStart => exact ⟨⟨m, rfl⟩, 0, by omega, rfl, rfl⟩
    case round =>
      obtain ⟨⟨m, rfl⟩, j, hj, rfl, hP⟩ := hrel
      have HhP := Lib.hid hP
      clear hP
      have hms := m.size
      by_cases hlt : j < rs.length
      · have hx : (l ++ [(j : Int)]).length = l.length + 1 := by simp
        have HM : Hid (mayS rs kk (l ++ [(j : Int)]) = (pathB rs.length rs (l ++ [(j : Int)]) || (decide (l.length + 1 = kk) && holeB rs.length rs (l ++ [(j : Int)])))) := by show mayS rs kk _ = _; unfold mayS; rw [hx]
        have HS := Lib.hid (fun h => (preF_go HhP.out).trans (flStep_skip (rec := flRun (S := Unit) (fun _ l => ((), holeB rs.length rs l)) (mayS rs kk) rs.length f) (may := mayS rs kk) (l := l) (v := j) (s := ()) (.inr h)))
        have HG := Lib.hid (fun h => (preF_go HhP.out).trans (flStep_dfs (q := fun l => holeB rs.length rs l) (N := rs.length) (f := f) (mayS_new (k := kk) h) h rfl))
        have hih := fun (n lc : Nat) (la : Addr) (w : World) (h1 : n = (l ++ [(j : Int)]).length) (h4 : n ≤ lc) h2 h3 => Hih.out (l ++ [(j : Int)]) n lc la w (by have := Hhlf.out; omega) h1 h4 h2 h3
        generalize dfs (mayS rs kk) (fun l => holeB rs.length rs l) rs.length f (l ++ [(j : Int)]) = O at HG hih
        have hp := fun (ao : Option Addr) (c : Nat) (w : World) h1 h2 => specIsPath_any rs.length rs (l ++ [(j : Int)]) ro ao rc c w h1 (by omega) h2 (by omega)
        have hh := fun (ao : Option Addr) (c : Nat) (w : World) h1 h2 => specIsHole_any rs.length rs (l ++ [(j : Int)]) ro ao rc c w h1 (by omega) h2 (by omega)
        rw [hx] at hih hp hh
        have hx0 := hx
        have Hhx := Lib.hid hx
        clear hx
        have Hhih := Lib.hid hih
        clear hih
        have Hhp := Lib.hid hp
        clear hp
        have Hhh := Lib.hid hh
        clear hh
        have Hhx0 := Lib.hid hx0
        clear hx0
        go_wp2_with (first | (at_builtin; first | ((refine wpList_append_cp rfl (.tmp 30) (.tmp 31) rfl m.w.heap.size _ la l lc rfl rfl ((hl.later m).below ((Below.refl _ _).alloc (Nat.le_refl _) _)) (by simp) (by omega) ?_); intro ao1 cap1 w1 hne1 hown1 hBw1; have hsz : m.w.heap.size + 1 ≤ w1.heap.size := by (have := hBw1.size; simp at this; omega)) | ((refine wpList_append_e rfl (.tmp 32) (.tmp 34) rfl m.w.heap.size cap1 ao1 l (j : Int) rfl hown1 rfl (by omega) (by omega) ?_); intro ao2 cap2 w2 hown2 hBw2; obtain ⟨lb2, lo2, rfl, -, -⟩ := hown2.ints (by simp); have hB2 : Below m.w.heap.size m.w w2 := ((((Below.refl _ _).alloc (Nat.le_refl _) _).trans (hBw1.mono (by simp))).trans hBw2); obtain ⟨m2, hm2⟩ : ∃ m2 : Later W1, m2.w = w2 := ⟨m.on hB2, rfl⟩; subst hm2)))
        have hI2 := hown2.ints
        have hC2 := hown2.cap_le
        rw [Hhx0.out] at hC2
        have HhC2 := Lib.hid hC2
        clear hC2
        clear hown1 hown2 hBw1 hBw2 hsz hne1 hB2
        refine (Hhp.out _ _ _ (hr.later m2) hI2).mono ?_
        rintro e w3 ⟨rfl, hB3⟩
        have hI3 := hI2.below hB3
        obtain ⟨m3, rfl⟩ : ∃ m3 : Later W1, m3.w = w3 := ⟨m2.on hB3, rfl⟩
        clear hI2 hB3
        cases hpb : pathB rs.length rs (l ++ [(j : Int)])
        · by_cases hk : l.length + 1 = kk
          · have dk : (((l.length : Int) + 1) == (kk : Int)) = true := by rw [beq_iff_eq]; omega
            have dk2 : (((l.length + 1 : Nat) : Int) == (kk : Int)) = true := by rw [beq_iff_eq]; omega
            have HK := Lib.hid (decide_eq_true hk)
            clear hk
            go_wp2_with fail
            refine (Hhh.out _ _ _ (hr.later m3) hI3).mono ?_
            rintro e w4 ⟨rfl, hB4⟩
            have hI4 := hI3.below hB4
            obtain ⟨m4, rfl⟩ : ∃ m4 : Later W1, m4.w = w4 := ⟨m3.on hB4, rfl⟩
            clear hI3 hB4 dk dk2
            cases hhb : holeB rs.length rs (l ++ [(j : Int)])
            · go_wp2_with fail
              go_roundw
              case rel => exact ⟨⟨m4, rfl⟩, j + 1, by omega, by go_num, HS.out (by rw [HM.out, hpb, hhb, Bool.and_false]; rfl)⟩
              case measure => simp [intOf]; omega
            · have HG' := Lib.hid (HG.out (by rw [HM.out, hpb, hhb, HK.out]; first | rfl | simp))
              rcases O with _ | x
              · go_wp2_with fail
                refine (Hhih.out _ _ _ _ rfl HhC2.out (hr.later m4) hI4).mono ?_
                rintro e w5 ⟨ao5, cap5, xs5, rfl, hB5, hI5, hE5, hN5, hC5⟩
                obtain ⟨m5, rfl⟩ : ∃ m5 : Later W1, m5.w = w5 := ⟨m4.on hB5, rfl⟩
                clear hI5 hE5 hN5 hB5 hC5
                go_wp2_with fail
                go_roundw
                case rel => exact ⟨⟨m5, rfl⟩, j + 1, by omega, by go_num, HG'.out⟩
                case measure => simp [intOf]; omega
              · have HE := Lib.hid (dfs_hit hlt HG'.out)
                go_wp2_with fail
                refine (Hhih.out _ _ _ _ rfl HhC2.out (hr.later m4) hI4).mono ?_
                rintro e w5 ⟨ao5, cap5, xs5, rfl, hB5, hI5, hE5, hN5, hC5⟩
                obtain ⟨m5, rfl⟩ : ∃ m5 : Later W1, m5.w = w5 := ⟨m4.on hB5, rfl⟩
                obtain rfl := hE5 _ rfl
                have HhI5 := Lib.hid hI5
                clear hI5
                have HhC5 := Lib.hid hC5
                clear hC5
                clear hE5 hN5 hB5
                go_wp2_with fail
                go_ret2
                rw [HE.out]
                exact ⟨ao5, cap5, _, rfl, below_later HhB.out m5, HhI5.out, fun x h => Option.some.inj h, (fun _ h => by cases h), HhC5.out⟩
          · have dk : (((l.length : Int) + 1) == (kk : Int)) = false := by rw [beq_eq_false_iff_ne]; omega
            have dk2 : (((l.length + 1 : Nat) : Int) == (kk : Int)) = false := by rw [beq_eq_false_iff_ne]; omega
            go_wp2_with fail
            go_roundw
            case rel => exact ⟨⟨m3, rfl⟩, j + 1, by omega, by go_num, HS.out (by rw [HM.out, hpb, decide_eq_false hk]; rfl)⟩
            case measure => simp [intOf]; omega
        · have HG' := Lib.hid (HG.out (by rw [HM.out, hpb]; first | rfl | simp))
          rcases O with _ | x
          · go_wp2_with fail
            refine (Hhih.out _ _ _ _ rfl HhC2.out (hr.later m3) hI3).mono ?_
            rintro e w5 ⟨ao5, cap5, xs5, rfl, hB5, hI5, hE5, hN5, hC5⟩
            obtain ⟨m5, rfl⟩ : ∃ m5 : Later W1, m5.w = w5 := ⟨m3.on hB5, rfl⟩
            clear hI5 hE5 hN5 hB5 hC5
            go_wp2_with fail
            go_roundw
            case rel => exact ⟨⟨m5, rfl⟩, j + 1, by omega, by go_num, HG'.out⟩
            case measure => simp [intOf]; omega
          · have HE := Lib.hid (dfs_hit hlt HG'.out)
            go_wp2_with fail
            refine (Hhih.out _ _ _ _ rfl HhC2.out (hr.later m3) hI3).mono ?_
            rintro e w5 ⟨ao5, cap5, xs5, rfl, hB5, hI5, hE5, hN5, hC5⟩
            obtain ⟨m5, rfl⟩ : ∃ m5 : Later W1, m5.w = w5 := ⟨m3.on hB5, rfl⟩
            obtain rfl := hE5 _ rfl
            have HhI5 := Lib.hid hI5
            clear hI5
            have HhC5 := Lib.hid hC5
            clear hC5
            clear hE5 hN5 hB5
            go_wp2_with fail
            go_ret2
            rw [HE.out]
            exact ⟨ao5, cap5, _, rfl, below_later HhB.out m5, HhI5.out, fun x h => Option.some.inj h, (fun _ h => by cases h), HhC5.out⟩
      · obtain rfl : j = rs.length := by omega
        have HE := Lib.hid (dfs_none HhP.out)
        go_wp2_with fail
        go_ret2
        rw [HE.out]
        exact ⟨_, _, [], rfl, (below_later HhB.out m).alloc (below_later HhB.out m).size _, fun h => absurd h (by simp), fun x h => absurd h (by simp), (fun _ _ => rfl), by simp⟩

end Go.Proofs.YtfkehmpckhmkbaaGreat
