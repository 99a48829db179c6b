/-
  firstList of the program, for whatever two functions; what a search with one pruning or another finds. For at most 2^20 rows.
  Plain laws of searches through all lists of different numbers: what a visitor that never stops has seen; the first best list. No conditions.
  Plain laws of the least cost of all orders: reckoned set by set, and over all lists of different numbers. No conditions.
  Plain laws of the pathwidth: the least cut of all orders is what is reckoned set by set. No conditions.
  The band of an order out of the edge list: the plain law of BandOf of the program.
  LaterNeighbours of the reference and of the program, SetOf of the program. For at most 2^20 rows and list elements; the order is right and the vertex is in it.
  Plain laws of the fill: what elimination in an order joins, edge by edge, row by row, and out of the list of new edges. No conditions.
  l6Filled and WidthOfOrder of the reference. For at most 2^20 rows and list elements.
  The walks of the laws' helpers on Arcs: szArcs, toArcs, eqArcs. The lists have at most 2^20 elements where copies are made.
  The walks of the laws' helpers that write into results and read them again, from whatever number on: markIntS, heldIntS; markArcs, markGraph, heldGraph, markIntervals, heldIntervals over them. For lists of at most 2^20 elements.
  Two lists of integers that a call makes side by side, each appended to in turn. For at most 2^20 elements.
-/
import Derived.Test.YtjikmjhpmkakoaaGreatDoorPkCardCographs12
import Derived.Test.YtjikmjhpmkakoaaGreatDoorPkCardCographs03
import Derived.Test.YtjikmjhpmkakoaaGreatDoorPkCardCographs04
import Derived.Test.YtjikmjhpmkakoaaGreatDoorPkCardCographs11
import Derived.Test.YtjikmjhpmkakoaaGreatDoorPkCardCographs05
import Derived.Test.YtjikmjhpmkakoaaGreatDoorPkCardCographs07
import Derived.Deep.RegionWith
import Derived.Test.YtjikmjhpmkakoaaGreatDoorPkCardCographs01
import Derived.Deep.AppendLies
namespace Go.Proofs.YtjikmjhpmkakoaaGreatDoor
open Go.RowKit

theorem allocs5 {w W1 : World} {c0 c1 c2 c3 c4 : Array Value} {T0 T1 T2 T3 T4 : TypeId} (h : (((((w.alloc (.cells c0 T0)).alloc (.cells c1 T1)).alloc (.cells c2 T2)).alloc (.cells c3 T3)).alloc (.cells c4 T4)) = W1) :
    Below w.heap.size w W1 ∧ W1.heap.size = w.heap.size + 5 ∧ Blk W1 w.heap.size c0 T0 ∧ Blk W1 (w.heap.size + 1) c1 T1 ∧ Blk W1 (w.heap.size + 1 + 1) c2 T2 ∧ Blk W1 (w.heap.size + 1 + 1 + 1) c3 T3 ∧ Blk W1 (w.heap.size + 1 + 1 + 1 + 1) c4 T4 := by
  obtain ⟨U, hU⟩ : ∃ U, (((w.alloc (.cells c0 T0)).alloc (.cells c1 T1)).alloc (.cells c2 T2)) = U := ⟨_, rfl⟩
  obtain ⟨b1, b2, b3, b4, b5⟩ := alloc3 hU
  rw [hU] at h
  obtain ⟨d1, d2, d3, d4⟩ := alloc2 h
  rw [b2] at d1 d2 d3 d4
  exact ⟨b1.trans (d1.mono (by omega)), d2, b3.below d1 (by omega), b4.below d1 (by omega), b5.below d1 (by omega), d3, d4⟩

set_option maxRecDepth 100000 in
set_option maxHeartbeats 2000000 in
theorem firstList_bad (sz n : Int) (rs : List Int) (ro : Option Addr) (rc Km Kh : Nat) (capsM capsH : Array Value) (w : World) (hr : IntsAt w ro rs) (hrl : rs.length ≤ 1048576) (hv : isGraphB sz rs = false) :
    Calls Tryz.prog 137 #[.agg #[.int .i64 sz, .slice ro rs.length rc], .int .i64 n, .func (.func Km) #[] capsM, .func (.func Kh) #[] capsH] w fun e w' => e = .returned (.tuple #[.slice none 0 0, .bool false]) ∧ Below w.heap.size w w' := by
  go_enter Tryz.func137, Tryz.ntmps137
  go_wp2_with fail
  generalize hW : World.alloc _ _ = W1
  obtain ⟨hB, -, -, -, -, -, -⟩ := allocs5 hW
  replace hr := hr.below hB
  clear hW
  have HhB := Lib.hid hB
  clear hB
  obtain ⟨m, hm0⟩ : ∃ m : Later W1, m.w = W1 := ⟨Later.refl _, rfl⟩
  refine (fun h => hm0 ▸ h) ?_
  clear hm0
  refine (Calls.later m (implIsGraph_any _ _ _ _ _ (hr.later m) hrl)).mono ?_
  rintro e w' ⟨rfl, m, rfl⟩
  rw [hv]
  go_wp2_with fail
  go_ret2
  exact ⟨rfl, below_later HhB.out m⟩

set_option maxRecDepth 100000 in
set_option maxHeartbeats 2000000 in
theorem firstList_any {S : Type} (V : S → List Int → S × Bool) (may : List Int → Bool) (I : S → World → Prop) (X : Nat → Prop) (rs : List Int) (ro : Option Addr) (rc n Km Kh : Nat) (capsM capsH : Array Value) (s : S) (w : World) (hr : IntsAt w ro rs) (hv : isGraphB rs.length rs = true) (hn1 : 1 ≤ n) (hn : n ≤ 7)
    (hX : ∀ b, X b → b < w.heap.size) (hEm : ∀ args w, Sem.run Tryz.prog (callFunc Km args) w = .ok (.enter Km args) w) (hEh : ∀ args w, Sem.run Tryz.prog (callFunc Kh args) w = .ok (.enter Kh args) w)
    (hMay : MayOf Km capsM X w may n) (hHolds : HoldsOf Kh capsH X w V I n) (hI : ∀ s w w', I s w → Below w.heap.size w w' → I s w') (hIs : I s w) :
    Calls Tryz.prog 137 #[.agg #[.int .i64 rs.length, .slice ro rs.length rc], .int .i64 n, .func (.func Km) #[] capsM, .func (.func Kh) #[] capsH] w fun e w' =>
      ∃ ao cap, e = .returned (.tuple #[.slice ao ((flRun V may rs.length n s []).2.getD []).length cap, .bool (flRun V may rs.length n s []).2.isSome]) ∧ Only X w.heap.size w w' ∧ I (flRun V may rs.length n s []).1 w' ∧ OwnE w' w.heap.size ao cap ((flRun V may rs.length n s []).2.getD []) := by
  have hN7 := (VG.of hv).2.le
  have q22 : ∀ (w : World) (a : Option Addr) (n c n' c' : Nat), (binOp .neq 24 (.slice a n c) (.slice none n' c')).run Tryz.prog w = .ok (.bool (!a.isNone)) w := fun w a n c n' c' => run_neq_slice_nil_any w _ _ a n c n' c' Tryz.underlying24
  have hrl : rs.length ≤ 1048576 := by omega
  have HhMay := Lib.hid hMay
  clear hMay
  have HhHolds := Lib.hid hHolds
  clear hHolds
  have HhI := Lib.hid hI
  clear hI
  have HhIs := Lib.hid hIs
  clear hIs
  have HhX := Lib.hid hX
  clear hX
  go_enter Tryz.func137, Tryz.ntmps137
  go_wp2_with fail
  generalize hW : World.alloc _ _ = W1
  obtain ⟨hB, hs, k0, k1, k2, k3, k4⟩ := allocs5 hW
  replace hr := hr.below hB
  have l4 := k4.lt
  have c4 := k4.cell 0
  simp at c4
  clear hW
  have HhB := Lib.hid hB
  clear hB
  have Hk0 := Lib.hid k0
  clear k0
  have Hk1 := Lib.hid k1
  clear k1
  have Hk2 := Lib.hid k2
  clear k2
  have Hk3 := Lib.hid k3
  clear k3
  have Hk4 := Lib.hid k4
  clear k4
  have Hhs := Lib.hid hs
  clear hs
  obtain ⟨m, hm0⟩ : ∃ m : Later W1, m.w = W1 := ⟨Later.refl _, rfl⟩
  refine (fun h => hm0 ▸ h) ?_
  clear hm0
  refine (Calls.later m (implIsGraph_any _ _ _ _ _ (hr.later m) hrl)).mono ?_
  rintro e w' ⟨rfl, m, rfl⟩
  rw [hv]
  go_wp2_with fail
  have hX1 : ∀ b, X b → b < W1.heap.size := fun b hb => by have := HhX.out b hb; have := Hhs.out; omega
  have up : ∀ m : LateX X W1, Only X w.heap.size w m.w := fun m => (Only.of HhB.out).trans (m.only.mono HhB.out.size fun _ _ h => h)
  have nx : ∀ b, w.heap.size ≤ b → ¬X b := fun b hb h => by have := HhX.out b h; omega
  have hIm : I s m.w := HhI.out _ _ _ HhIs.out (below_later HhB.out m)
  refine (flSearch_any V may I X rs ro rc n Km Kh (w.heap.size + 1) (w.heap.size + 1 + 1 + 1) w.heap.size (w.heap.size + 1 + 1) (w.heap.size + 1 + 1 + 1 + 1) capsM capsH W1 hN7 hn1 hn Hk1.out Hk3.out Hk0.out Hk2.out Hk4.out
    (nx _ (by omega)) (nx _ (by omega)) (nx _ (by omega)) (nx _ (by omega)) (nx _ (by omega)) hX1 hEm hEh
    (fun m l ao n cap h1 h2 h3 h4 h5 => HhMay.out ⟨m.w, up m⟩ l ao n cap h1 h2 h3 h4 h5) (fun m s l ao cap h1 h2 h3 h4 => HhHolds.out ⟨m.w, up m⟩ s l ao cap h1 h2 h3 h4) HhI.out
    n [] s ⟨m.w, Only.of m.below⟩ none 0 0 (by simp) rfl (fun h => absurd h (by simp)) (fun _ => rfl) (Nat.le_refl _) hIm).mono ?_
  clear hIm
  rintro e w3 ⟨ao, cap, rfl, hnn, m3, rfl, hO3, hI3, hE3⟩
  have hO : Only X w.heap.size w m3.w := up m3
  have hE : OwnE m3.w w.heap.size ao cap ((flRun V may rs.length n s []).2.getD []) := hE3.mono' HhB.out.size
  clear hX1 up nx hE3 hO3
  have HhO := Lib.hid hO
  clear hO
  have HhE := Lib.hid hE
  clear hE
  have HhI3 := Lib.hid hI3
  clear hI3
  have hb : (!ao.isNone) = (flRun V may rs.length n s []).2.isSome := by rw [hnn]; cases (flRun V may rs.length n s []).2 <;> rfl
  clear hnn
  have Hhb := Lib.hid hb
  clear hb
  go_wp2_with fail
  go_ret2
  exact ⟨ao, cap, by rw [← Hhb.out]; cases ao <;> rfl, HhO.out, HhI3.out, HhE.out⟩

/-! ### Searches without a state -/
/-- The first list for which q holds, in the order of the search. -/
def dfs (may q : List Int → Bool) (N f : Nat) (l : List Int) : Option (List Int) := (flRun (S := Unit) (fun _ l => ((), q l)) may N f () l).2
theorem unit_eq {r : FL Unit} {o : Option (List Int)} (h : r.2 = o) : r = ((), o) := by rw [← h]
theorem dfs_from (may q : List Int → Bool) (N : Nat) : ∀ f l x, dfs may q N f l = some x → q x = true ∧ ∃ t, x = l ++ t ∧ t.length = f
  | 0, l, x, h => by
    have h' : (if q l = true then some l else none) = some x := h
    split at h'
    · rename_i hq
      simp only [Option.some.injEq] at h'
      subst h'
      exact ⟨hq, [], by simp, rfl⟩
    · cases h'
  | f + 1, l, x, h => by
    have hj : ∀ j, (preF (flStep (flRun (S := Unit) (fun _ l => ((), q l)) may N f) may l) ((), none) j).1.2 = some x → q x = true ∧ ∃ t, x = l ++ t ∧ t.length = f + 1 := by
      intro j
      induction j with
      | zero => intro hx; cases hx
      | succ j ih =>
        intro hx
        rw [preF] at hx
        split at hx
        · unfold flStep flSub at hx
          dsimp only at hx
          split at hx
          · obtain ⟨h1, t, h2, h3⟩ := dfs_from may q N f _ x hx
            exact ⟨h1, (j : Int) :: t, by rw [h2]; simp, by simp [h3]⟩
          · cases hx
        · exact ih hx
    exact hj N h
/-- Whatever holds in the end held at each beginning. -/
def Nec (may q : List Int → Bool) (n : Nat) : Prop := ∀ (l : List Int) (v : Nat) (t : List Int), (l ++ [(v : Int)] ++ t).length = n → q (l ++ [(v : Int)] ++ t) = true → inB l (v : Int) = false ∧ may (l ++ [(v : Int)]) = true
/-- Where the last step's test says what is asked in the end, nothing need be asked in the end. -/
theorem dfs_always {may q : List Int → Bool} {n : Nat} (N : Nat) (h : ∀ (l : List Int) (v : Nat), (l ++ [(v : Int)]).length = n → inB l (v : Int) = false → may (l ++ [(v : Int)]) = true → q (l ++ [(v : Int)]) = true) :
    ∀ f l, l.length + f = n → (f = 0 → q l = true) → flRun (S := Unit) (fun _ _ => ((), true)) may N f () l = flRun (S := Unit) (fun _ l => ((), q l)) may N f () l
  | 0, l, _, h0 => by show ((), if true = true then some l else none) = ((), if q l = true then some l else none); rw [if_pos rfl, if_pos (h0 rfl)]
  | f + 1, l, hl, _ => by
    have e : flStep (flRun (S := Unit) (fun _ _ => ((), true)) may N f) may l = flStep (flRun (S := Unit) (fun _ l => ((), q l)) may N f) may l := by
      funext v t
      unfold flStep
      have : flSub (flRun (S := Unit) (fun _ _ => ((), true)) may N f) may l v t = flSub (flRun (S := Unit) (fun _ l => ((), q l)) may N f) may l v t := by
        unfold flSub
        by_cases c : inB l (v : Int) = false ∧ may (l ++ [(v : Int)]) = true
        · rw [if_pos c, if_pos c]
          exact dfs_always N h f _ (by simp; omega) (fun hf => h l v (by simp; omega) c.1 c.2)
        · rw [if_neg c, if_neg c]
      rw [this]
    show (preF _ ((), none) N).1 = (preF _ ((), none) N).1
    rw [e]

/-- What a function hands back that finds a list: in memory of its own. -/
def RetO (w : World) (s : Option (List Int)) (e : Ending) (w' : World) : Prop := ∃ ao cap, e = .returned (.tuple #[.slice ao (s.getD []).length cap, .bool s.isSome]) ∧ Below w.heap.size w w' ∧ OwnE w' w.heap.size ao cap (s.getD [])
/-- The same, wherever the list stands. -/
def RetI (w : World) (s : Option (List Int)) (e : Ending) (w' : World) : Prop := ∃ ao cap, e = .returned (.tuple #[.slice ao (s.getD []).length cap, .bool s.isSome]) ∧ Below w.heap.size w w' ∧ IntsAt w' ao (s.getD [])
/-- What a search hands back at some depth: behind 'false' whatever list. -/
def RetD (w : World) (f : Nat) (s : Option (List Int)) (e : Ending) (w' : World) : Prop := ∃ ao cap xs, e = .returned (.tuple #[.slice ao xs.length cap, .bool s.isSome]) ∧ Below w.heap.size w w' ∧ IntsAt w' ao xs ∧ (∀ x, s = some x → xs = x) ∧ (1 ≤ f → s = none → xs = [])
theorem RetD.top {w : World} {f : Nat} {s : Option (List Int)} {e : Ending} {w' : World} (h : RetD w f s e w') (hf : 1 ≤ f) : RetI w s e w' := by
  obtain ⟨ao, cap, xs, h1, h2, h3, h4, h5⟩ := h
  have e2 : xs = s.getD [] := by
    cases s with
    | none => exact h5 hf rfl
    | some x => exact h4 x rfl
  exact ⟨ao, cap, by rw [h1, e2], h2, e2 ▸ h3⟩
theorem dfs_len {may q : List Int → Bool} {N n : Nat} {f : Nat} {l : List Int} (h : l.length + f = n) : ((dfs may q N f l).getD []).length ≤ n := by
  cases ho : dfs may q N f l with
  | none => simp
  | some x =>
    obtain ⟨-, t, rfl, h4⟩ := dfs_from may q N f l x ho
    simp; omega
theorem dfs_none {may q : List Int → Bool} {N f : Nat} {l : List Int} (h : preF (flStep (flRun (S := Unit) (fun _ l => ((), q l)) may N f) may l) ((), none) N = (((), none), true)) : dfs may q N (f + 1) l = none := by
  show (preF _ ((), none) N).1.2 = none; rw [h]
theorem dfs_hit {may q : List Int → Bool} {N f j : Nat} {l x : List Int} (hj : j < N) (h : preF (flStep (flRun (S := Unit) (fun _ l => ((), q l)) may N f) may l) ((), none) (j + 1) = (((), some x), false)) : dfs may q N (f + 1) l = some x := by
  show (preF _ ((), none) N).1.2 = some x; rw [preF_stop (j := j + 1) (by rw [h]) N (by omega), h]
theorem flStep_dfs {may q : List Int → Bool} {N f : Nat} {l : List Int} {v : Nat} {o : Option (List Int)} (h1 : inB l (v : Int) = false) (h2 : may (l ++ [(v : Int)]) = true) (h3 : dfs may q N f (l ++ [(v : Int)]) = o) : flStep (flRun (S := Unit) (fun _ l => ((), q l)) may N f) may l v ((), none) = (((), o), o.isNone) :=
  flStep_go h1 h2 (unit_eq h3)

theorem gi_left {a b : List Int} {k : Nat} (h : k < a.length) : gi (a ++ b) k = gi a k := by
  have h2 : k < (a ++ b).length := by simp; omega
  simp [gi, List.getElem?_append_left h]
theorem gi_mid {l t : List Int} {v : Int} : gi (l ++ [v] ++ t) l.length = v := by simp [gi]
theorem gi_last {l : List Int} {v : Int} : gi (l ++ [v]) l.length = v := by simp [gi]

end Go.Proofs.YtjikmjhpmkakoaaGreatDoor

namespace Go.Proofs.YtjikmjhpmkakoaaGreatDoor
open Go.RowKit

/-- t goes on behind p with different numbers below N. -/
def fresh (N : Nat) : List Int → List Nat → Prop
  | _, [] => True
  | p, v :: t => v < N ∧ inB p (v : Int) = false ∧ fresh N (p ++ [(v : Int)]) t
/-! ### The first best -/
end Go.Proofs.YtjikmjhpmkakoaaGreatDoor

namespace Go.Proofs.YtjikmjhpmkakoaaGreatDoor
open Go.RowKit

/-! ### Orders -/
theorem minus_or_fin : ∀ S : Fin 128, ∀ v : Fin 7, S.val.testBit v.val = true → ((S.val - 2 ^ v.val) ||| 2 ^ v.val) = S.val ∧ (S.val - 2 ^ v.val).testBit v.val = false := by decide +kernel
theorem minus_or {S v : Nat} (hS : S < 128) (h : S.testBit v = true) : (S - 2 ^ v) ||| 2 ^ v = S ∧ (S - 2 ^ v).testBit v = false := minus_or_fin ⟨S, hS⟩ ⟨v, bit7 hS h⟩ h
theorem lt128 {S N : Nat} (hN : N ≤ 7) (hS : S < 2 ^ N) : S < 128 := Nat.lt_of_lt_of_le hS (Nat.pow_le_pow_right (n := 2) (by decide) hN)
/-! ### Orders as lists of integers -/
end Go.Proofs.YtjikmjhpmkakoaaGreatDoor

namespace Go.Proofs.YtjikmjhpmkakoaaGreatDoor
open Go.RowKit

/-- How many there are. -/
theorem cnt_or_fin : ∀ S : Fin 128, ∀ v : Fin 7, S.val.testBit v.val = false → cnt (S.val ||| 2 ^ v.val) = cnt S.val + 1 := by decide +kernel
/-! ### All orders -/
end Go.Proofs.YtjikmjhpmkakoaaGreatDoor

namespace Go.Proofs.YtjikmjhpmkakoaaGreatDoor
open Go.RowKit

/-! ### The edges -/
theorem mem_edgesIn {rs : List Int} {i : Nat} {e : Nat × Nat} : ∀ {c}, e ∈ edgesIn rs i c ↔ e.1 = i ∧ i < e.2 ∧ e.2 < i + 1 + c ∧ (gn rs i).testBit e.2 = true
  | 0 => by simp [edgesIn]; omega
  | c + 1 => by
    unfold edgesIn
    rw [List.mem_append, mem_edgesIn]
    constructor
    · rintro (⟨h1, h2, h3, h4⟩ | h)
      · exact ⟨h1, h2, by omega, h4⟩
      · split at h
        · rename_i hb
          simp only [List.mem_singleton] at h
          subst h
          exact ⟨rfl, by show i < i + 1 + c; omega, by show i + 1 + c < _; omega, hb⟩
        · simp at h
    · rintro ⟨h1, h2, h3, h4⟩
      by_cases e2 : e.2 = i + 1 + c
      · right
        rw [e2] at h4
        rw [if_pos h4, List.mem_singleton]
        exact Prod.ext h1 e2
      · exact .inl ⟨h1, h2, by omega, h4⟩
theorem mem_edgesTo {rs : List Int} {e : Nat × Nat} : ∀ {n}, e ∈ edgesTo rs n ↔ e.1 < n ∧ e.1 < e.2 ∧ e.2 < max rs.length (e.1 + 1) ∧ (gn rs e.1).testBit e.2 = true
  | 0 => by simp [edgesTo]
  | n + 1 => by
    unfold edgesTo
    rw [List.mem_append, mem_edgesTo, mem_edgesIn]
    constructor
    · rintro (⟨h1, h2, h3, h4⟩ | ⟨h1, h2, h3, h4⟩)
      · exact ⟨by omega, h2, h3, h4⟩
      · subst h1
        exact ⟨by omega, h2, by omega, h4⟩
    · rintro ⟨h1, h2, h3, h4⟩
      by_cases e1 : e.1 = n
      · subst e1
        exact .inr ⟨rfl, h2, by omega, h4⟩
      · exact .inl ⟨by omega, h2, h3, h4⟩

end Go.Proofs.YtjikmjhpmkakoaaGreatDoor

namespace Go.Proofs.YtjikmjhpmkakoaaGreatDoor
open Go.RowKit

/-- What stands from place i on. -/
def behindN (rs l : List Int) (i : Nat) : Nat := nDiff (2 ^ rs.length - 1) (setTo l i)
def laterN (rs l : List Int) (i : Nat) : Nat := gn rs (gi l i).toNat &&& behindN rs l i
theorem setTo_bit {n : Int} {rs l : List Int} (h : vertsB n rs l = true) {k v : Nat} (hk : k ≤ l.length) : (setTo l k).testBit v = true ↔ ∃ j, j < k ∧ gi l j = (v : Int) := by
  have hs := h
  unfold vertsB at hs
  simp only [Bool.and_eq_true] at hs
  have hd : ∀ j, j < l.length → diffAt l j = true := by have := hs.2.1; unfold setOk at this; simpa using this
  rw [(setTo_bits (k := k) (fun j hj => hd j (by omega))).2 v]
  constructor
  · rintro ⟨j, hj, e⟩
    obtain ⟨u, hu, -⟩ := vert_at h (j := j) (by omega)
    exact ⟨j, hj, by rw [hu] at e ⊢; simp at e; rw [e]⟩
  · rintro ⟨j, hj, e⟩
    exact ⟨j, hj, by rw [e]; simp⟩


theorem behind_bit {n : Int} {rs l : List Int} (h : vertsB n rs l = true) {i v : Nat} (hi : i ≤ l.length) : (behindN rs l i).testBit v = true ↔ v < rs.length ∧ ¬∃ j, j < i ∧ gi l j = (v : Int) := by
  unfold behindN
  rw [nDiff_bit, Nat.testBit_two_pow_sub_one, decide_eq_true_eq, ← setTo_bit h hi, Bool.eq_false_iff]
end Go.Proofs.YtjikmjhpmkakoaaGreatDoor

namespace Go.Proofs.YtjikmjhpmkakoaaGreatDoor
open Go.RowKit

/-! ### Pair by pair -/
theorem eln_get {l : List Nat} {k : Nat} (h : k < l.length) : eln l k = l[k] := by simp [eln, h]
theorem els_has {S N v : Nat} (h : S < 2 ^ N) (hN : N ≤ 7) : S.testBit v = true ↔ ∃ k, k < cnt S ∧ eln (els S) k = v := by
  rw [← mem_els h hN, List.mem_iff_getElem]
  constructor
  · rintro ⟨k, hk, e⟩
    exact ⟨k, hk, by rw [eln_get hk]; exact e⟩
  · rintro ⟨k, hk, e⟩
    exact ⟨k, hk, by rw [← e, eln_get (l := els S) hk]⟩
/-! ### Row by row -/
/-! ### Out of the list of edges -/
/-! ### The width of an order -/
end Go.Proofs.YtjikmjhpmkakoaaGreatDoor

namespace Go.Proofs.YtjikmjhpmkakoaaGreatDoor
open Go.RowKit

/-- A list of vertices out of a block from 'base' on. -/
def NatsB (base : Nat) (w : World) (ao : Option Addr) (l : List Nat) : Prop :=
  0 < l.length → ∃ g, ao = some ⟨g, 0, none⟩ ∧ base ≤ g ∧ g < w.heap.size ∧ ∀ k, k < l.length → w.cell? ⟨g, k, none⟩ = some (.int .i64 (eln l k : Int))
theorem NatsB.of {w : World} {base cap : Nat} {ao : Option Addr} {l : List Nat} (h : OwnL w base (.slice ao (l.map Int.ofNat).length cap) (l.map Int.ofNat)) : NatsB base w ao l := fun h0 => by
  obtain ⟨g, h1, h2, h3⟩ := (OwnE.own h).row (by simpa using h0)
  refine ⟨g, h1, h2, h3.lt, fun k hk => ?_⟩
  rw [h3.cell k (by simpa using hk), gi_map l k hk]
theorem specListB_any (S : Nat) (h : S < 128) (w : World) : Calls Tryz.prog 64 #[.int .i64 S] w fun e w' => ∃ ao cap, e = .returned (.slice ao (cnt S) cap) ∧ Below w.heap.size w w' ∧ NatsB w.heap.size w' ao (els S) :=
  (specListOf_any (S : Int) w).mono fun e w' ⟨ao, cap, he, hb, ho⟩ => by
    rw [listOf_nat h] at he ho
    exact ⟨ao, cap, by rw [he, List.length_map]; rfl, hb, NatsB.of ho⟩
theorem implListB_any (S : Nat) (h : S < 128) (w : World) : Calls Tryz.prog 47 #[.int .i64 S] w fun e w' => ∃ ao cap, e = .returned (.slice ao (cnt S) cap) ∧ Below w.heap.size w w' ∧ NatsB w.heap.size w' ao (els S) :=
  (implListOf_any (S : Int) w).mono fun e w' ⟨ao, cap, he, hb, ho⟩ => by
    rw [listOf_nat h] at he ho
    exact ⟨ao, cap, by rw [he, List.length_map]; rfl, hb, NatsB.of ho⟩



end Go.Proofs.YtjikmjhpmkakoaaGreatDoor

namespace Go.Proofs.YtjikmjhpmkakoaaGreatDoor
open Go.RowKit

end Go.Proofs.YtjikmjhpmkakoaaGreatDoor

namespace Go.Proofs.YtjikmjhpmkakoaaGreatDoor
open Go.RowKit

/-- The block that a list lies in, where it has elements. -/
def XR (ao : Option Addr) (xs : List Int) (b : Nat) : Prop := 0 < xs.length ∧ ∃ off, ao = some ⟨b, off, none⟩
end Go.Proofs.YtjikmjhpmkakoaaGreatDoor

namespace Go.Proofs.YtjikmjhpmkakoaaGreatDoor
open Go.RowKit

/-- Two lists of the call's own, from block base on, in blocks of their own each. -/
structure TwoL (w : World) (base : Nat) (v1 v2 : Value) (L R : List Int) : Prop where
  o1 : OwnL w base v1 L
  o2 : OwnL w base v2 R
  ne : v1.ownBlock = none ∨ v1.ownBlock ≠ v2.ownBlock
theorem OwnL.lt {w : World} {base : Nat} {v : Value} {xs : List Int} (h : OwnL w base v xs) {k : Nat} (hk : v.ownBlock = some k) : base ≤ k ∧ k < w.heap.size := by
  obtain ⟨h0, ⟨rfl, -⟩ | ⟨g, cap, cur, rfl, hg, hh, -⟩⟩ := h
  · cases hk
  · simp only [Value.ownBlock, Option.some.injEq] at hk
    subst hk
    exact ⟨hg, (Array.getElem?_eq_some_iff.1 hh).1⟩
theorem OwnL.kept {w w' : World} {base : Nat} {v : Value} {xs : List Int} {row : Option Nat} (h : OwnL w base v xs) (hg : w.grownBy w' row) (hne : v.ownBlock = none ∨ v.ownBlock ≠ row) : OwnL w' base v xs :=
  World.ownsRow.kept h hg hne
theorem TwoL.alloc {w : World} {base : Nat} {v1 v2 : Value} {L R : List Int} (h : TwoL w base v1 v2 L R) (o : Obj) : TwoL (w.alloc o) base v1 v2 L R := ⟨h.o1.alloc o, h.o2.alloc o, h.ne⟩
theorem TwoL.below {w w' : World} {base : Nat} {v1 v2 : Value} {L R : List Int} (h : TwoL w base v1 v2 L R) (hb : Below w.heap.size w w') : TwoL w' base v1 v2 L R := ⟨h.o1.below hb, h.o2.below hb, h.ne⟩
theorem TwoL.drew {w : World} {base : Nat} {v1 v2 : Value} {L R : List Int} (h : TwoL w base v1 v2 L R) : TwoL w.drew base v1 v2 L R := h.below (Below.refl _ _).drew
theorem TwoL.store {w : World} {base : Nat} {v1 v2 : Value} {L R : List Int} (h : TwoL w base v1 v2 L R) {a : Addr} (ha : a.block < base) (u : Value) : TwoL (w.setCell a u) base v1 v2 L R := by
  have hg : w.grownBy (w.setCell a u) (some a.block) := ⟨rfl, rfl, rfl, by simp [World.setCell], fun k _ hk => Below.heap_setCell _ _ _ _ (fun e => hk (by rw [e]))⟩
  have key : ∀ v xs, OwnL w base v xs → OwnL (w.setCell a u) base v xs := fun v xs ho => by
    refine ho.kept hg ?_
    cases hv : v.ownBlock with
    | none => exact .inl rfl
    | some k => exact .inr fun e => by have := (ho.lt hv).1; simp only [Option.some.injEq] at e; omega
  exact ⟨key _ _ h.o1, key _ _ h.o2, h.ne⟩
theorem TwoL.nil (w : World) (base : Nat) : TwoL w base (.slice none 0 0) (.slice none 0 0) [] [] := ⟨OwnL.nil _ _, OwnL.nil _ _, .inl rfl⟩

theorem news_one {w : World} {B : Nat} {y : Int} (hc : w.cell? ⟨B, 0, none⟩ = some (.int .i64 y)) : ∀ j u, [Value.int .i64 y][j]? = some u → w.cell? ((⟨B, 0, none⟩ : Addr).add j) = some u := by
  intro j u hj
  match j, hj with
  | 0, hj => simp at hj; subst hj; simpa [Addr.add] using hc

theorem wp_append_L {o : Oper} {a : Act} {K : Act → World → Prop} {Q : Exit → Act → World → Prop} {w : World} (s x : Operand)
    (ho : o.op = .call { callee := .builtin .append, args := #[s, x], argTypes := #[24, 24] })
    (base : Nat) (v : Value) (xs : List Int) (y : Int) (B : Nat) (hs : a.eval s = v) (hown : OwnL w base v xs) (hx : a.eval x = .slice (some ⟨B, 0, none⟩) 1 1)
    (hc : w.cell? ⟨B, 0, none⟩ = some (.int .i64 y)) (hbase : base ≤ w.heap.size) (hlen : xs.length ≤ 1048576)
    (n : Nat) (hn : xs.length = n) (h : ∀ g cap w', OwnL w' base (.slice (some ⟨g, 0, none⟩) (n + 1) cap) (xs ++ [y]) → w.grownBy w' v.ownBlock → (v.ownBlock = some g ∨ g = w.heap.size) → K (a.put o.dst (.slice (some ⟨g, 0, none⟩) (n + 1) cap)) w') : o.wp Tryz.prog a w K Q := by
  subst hn
  obtain ⟨i0, hi, hz0, hz1, hz2⟩ := info_parts info_int
  refine wp_append_lies w s x 24 ho base 3 i0 (.int .i64 0) 1 8 Tryz.underlying24 hi hz0 hz1 hz2 rfl (by decide) v xs.length (xs.map (Value.int .i64)) hs hown
    ⟨B, 0, none⟩ 1 1 [.int .i64 y] hx rfl (news_one hc) (by intro u hu; simp at hu; subst hu; rfl) (by omega) (by unfold maxLen; omega) (by omega) hbase w.heap.size rfl ?_
  intro g cap w' h1 h2 h3 _
  refine h g cap w' ?_ h2 h3
  unfold OwnL
  simpa using h1
theorem grown_below {w w' : World} {base : Nat} {v : Value} {xs : List Int} (ho : OwnL w base v xs) (hg : w.grownBy w' v.ownBlock) (hbase : base ≤ w.heap.size) : Below base w w' :=
  (Below.refl base w).grown hg hbase fun _ hk => (ho.lt hk).1

/-- What the two read as at the end. -/
theorem TwoL.parts {w : World} {base : Nat} {v1 v2 : Value} {L R : List Int} (h : TwoL w base v1 v2 L R) : ∃ ao bo c d, v1 = .slice ao L.length c ∧ v2 = .slice bo R.length d ∧ OwnE w base ao c L ∧ OwnE w base bo d R ∧ ∀ b, XR ao L b → ¬XR bo R b := by
  obtain ⟨ao, c, rfl⟩ := h.o1.form
  obtain ⟨bo, d, rfl⟩ := h.o2.form
  refine ⟨ao, bo, c, d, rfl, rfl, .inl h.o1, .inl h.o2, fun b ⟨h1, o1, e1⟩ ⟨h2, o2, e2⟩ => ?_⟩
  subst e1 e2
  rcases h.ne with e | e
  · simp [Value.ownBlock] at e
  · exact e (by simp [Value.ownBlock])

theorem TwoL.only {w w' : World} {base cb : Nat} {v1 v2 : Value} {L R : List Int} (h : TwoL w base v1 v2 L R) (hO : Only (fun b => b = cb) w.heap.size w w') (hc : cb < base) : TwoL w' base v1 v2 L R := by
  have hg : w.grownBy w' (some cb) := ⟨hO.os, hO.tape, hO.output, hO.size, fun k hk hne => hO.block k hk fun e => hne (by rw [show k = cb from e])⟩
  have key : ∀ v xs, OwnL w base v xs → OwnL w' base v xs := fun v xs ho => by
    refine ho.kept hg ?_
    cases hv : v.ownBlock with
    | none => exact .inl rfl
    | some k => exact .inr fun e => by have := (ho.lt hv).1; simp only [Option.some.injEq] at e; omega
  exact ⟨key _ _ h.o1, key _ _ h.o2, h.ne⟩

end Go.Proofs.YtjikmjhpmkakoaaGreatDoor
