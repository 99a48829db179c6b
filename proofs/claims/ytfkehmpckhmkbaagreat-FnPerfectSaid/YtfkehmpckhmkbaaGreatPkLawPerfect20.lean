/-
  The search of colorings of the program, for whatever visitor. For at most 7 colors.
  colorings of the program for whatever visitor; CountColorings and ColoringWith of the program. For at most 2^20 rows.
  ColoringWith and ChromaticNumber of the program. For at most 2^20 rows.
-/
import Derived.Test.YtfkehmpckhmkbaaGreatPkLawPerfect04
import Derived.Test.YtfkehmpckhmkbaaGreatPkLawPerfect01
import Derived.Laws.EntriesVeiled
namespace Go.Proofs.YtfkehmpckhmkbaaGreat
open Go.RowKit

theorem OwnE.room {w : World} {base cap : Nat} {ao : Option Addr} {xs : List Int} (h : OwnE w base ao cap xs) : xs.length ≤ cap := by
  rcases h with ⟨hl, ⟨h1, h2⟩ | ⟨g, cp, cur, hv, hg, hb, hn, hm, hsz, ht⟩⟩ | ⟨rfl, -, -⟩
  · omega
  · simp only [Value.slice.injEq] at hv
    omega
  · simp
theorem OwnE.take {w : World} {base cap : Nat} {ao : Option Addr} {xs : List Int} {y : Int} (h : OwnE w base ao cap (xs ++ [y])) : OwnE w base ao cap xs := by
  rcases h with ⟨hl, ⟨h1, h2⟩ | ⟨g, cp, cur, hv, hg, hb, hn, hm, hsz, ht⟩⟩ | ⟨h, -, -⟩
  · simp at h2
  · simp only [Value.slice.injEq] at hv
    obtain ⟨rfl, -, rfl⟩ := hv
    refine .inl ⟨by simp, .inr ⟨g, cap, cur, rfl, hg, hb, ?_, hm, hsz, ?_⟩⟩
    · simp at hn; omega
    · have := congrArg (List.take (xs.length * 1)) ht
      rw [List.take_take] at this
      simpa using this
  · simp at h
theorem OwnE.setCell {w : World} {base cap : Nat} {ao : Option Addr} {xs : List Int} (h : OwnE w base ao cap xs) {a : Addr} (ha : a.block < base) (u : Value) : OwnE (w.setCell a u) base ao cap xs :=
  h.imp (fun h => ownsRow_setCell_below h ha u) id

theorem OwnE.only {X : Nat → Prop} {w w' : World} {base cap : Nat} {ao : Option Addr} {xs : List Int} (h : OwnE w base ao cap xs) (k : Only X w.heap.size w w') (hX : ∀ b, base ≤ b → ¬X b) : OwnE w' base ao cap xs := by
  rcases h with ⟨hl, h1 | ⟨g, cp, cur, hv, hg, hb, hr⟩⟩ | h
  · exact .inl ⟨hl, .inl h1⟩
  · exact .inl ⟨hl, .inr ⟨g, cp, cur, hv, hg, by rw [k.block g (Array.getElem?_eq_some_iff.1 hb).1 (hX g hg)]; exact hb, hr⟩⟩
  · exact .inr h

/-! ### The plain search -/
def clash (rs l : List Int) (c t : Nat) : Bool := (gi l t == (c : Int)) && (gn rs l.length).testBit t
def freeTo (rs l : List Int) (c : Nat) : Nat → Bool
  | 0 => true
  | t + 1 => freeTo rs l c t && !clash rs l c t
def preB {S : Type} (step : Nat → S → S × Bool) (s : S) : Nat → S × Bool
  | 0 => (s, true)
  | j + 1 => if (preB step s j).2 = true then step j (preB step s j).1 else preB step s j
def colRun {S : Type} (V : S → List Int → S × Bool) (rs : List Int) (kc : Nat) : Nat → S → List Int → S × Bool
  | 0, s, l => V s l
  | f + 1, s, l => preB (fun c s => if freeTo rs l c l.length = true then colRun V rs kc f s (l ++ [(c : Int)]) else (s, true)) s kc
theorem preB_go {S : Type} {step : Nat → S → S × Bool} {s s' : S} {j : Nat} (h : preB step s j = (s', true)) : preB step s (j + 1) = step j s' := by
  rw [preB, h]; rfl
theorem preB_stop {S : Type} {step : Nat → S → S × Bool} {s : S} {j : Nat} (h : (preB step s j).2 = false) : ∀ i, j ≤ i → preB step s i = preB step s j
  | 0, hi => by obtain rfl : j = 0 := by omega
                rfl
  | i + 1, hi => by
    rcases Nat.lt_or_ge i j with h1 | h1
    · obtain rfl : j = i + 1 := by omega
      rfl
    · have e := preB_stop h i h1
      rw [preB, e, h]; rfl
theorem pair_eq {S : Type} {p : S × Bool} {b : Bool} (h : p.2 = b) : p = (p.1, b) := by rw [← h]

/-- The blocks that the search may write: the visitor's variable and its own list of colors. -/
def XX (bv cB b : Nat) : Prop := b = bv ∨ b = cB

/-- What a visitor does. -/
def VisitOf {S : Type} (K : Nat) (V : S → List Int → S × Bool) (enc : S → Value) (J : S → World → Prop) (T0 : TypeId) (bv N : Nat) : Prop :=
  ∀ (s : S) (l : List Int) (ao : Option Addr) (cap : Nat) (w : World), Blk w bv #[enc s] T0 → IntsAt w ao l → l.length = N → ao ≠ none → l.length ≤ cap → Calls Tryz.prog K #[.slice ao l.length cap, .pointer (some ⟨bv, 0, none⟩)] w fun e w' =>
    e = .returned (.bool (V s l).2) ∧ Only (fun b => b = bv) w.heap.size w w' ∧ ((V s l).2 = true → Blk w' bv #[enc (V s l).1] T0) ∧ ((V s l).2 = false → J (V s l).1 w')

set_option maxRecDepth 100000 in
set_option maxHeartbeats 1000000 in
theorem colSearch_any {S : Type} (V : S → List Int → S × Bool) (enc : S → Value) (J : S → World → Prop) (T0 : TypeId) (rs : List Int) (ro : Option Addr) (rc kc K bv cB gB vB kB sB : Nat) (W : World) (g : VG rs) (hk : kc ≤ 7)
    (hr : ∀ m : LateX (XX bv cB) W, IntsAt m.w ro rs) (hg : Blk W gB #[.int .i64 rs.length, .slice ro rs.length rc] 26) (hv : Blk W vB #[.func (.func K) #[] #[.pointer (some ⟨bv, 0, none⟩)]] 55) (hkb : Blk W kB #[.int .i64 kc] 3)
    (hs : Blk W sB #[.func (.func 109) #[] #[.pointer (some ⟨cB, 0, none⟩), .pointer (some ⟨gB, 0, none⟩), .pointer (some ⟨vB, 0, none⟩), .pointer (some ⟨kB, 0, none⟩), .pointer (some ⟨sB, 0, none⟩)]] 86)
    (hcl : cB < W.heap.size) (hbl : bv < W.heap.size) (hne : bv ≠ cB) (xg : ¬XX bv cB gB) (xv : ¬XX bv cB vB) (xk : ¬XX bv cB kB) (xs : ¬XX bv cB sB)
    (hE : ∀ args w, Sem.run Tryz.prog (callFunc K args) w = .ok (.enter K args) w) (hK : VisitOf K V enc J T0 bv rs.length) :
    ∀ (f : Nat) (l : List Int) (s : S) (m : LateX (XX bv cB) W) (ao : Option Addr) (cap : Nat), l.length + f = rs.length → Blk m.w bv #[enc s] T0 → Blk m.w cB #[.slice ao l.length cap] 24 → OwnE m.w W.heap.size ao cap l → ao ≠ none →
      Calls Tryz.prog 109 #[.pointer (some ⟨cB, 0, none⟩), .pointer (some ⟨gB, 0, none⟩), .pointer (some ⟨vB, 0, none⟩), .pointer (some ⟨kB, 0, none⟩), .pointer (some ⟨sB, 0, none⟩)] m.w fun e w' =>
        e = .returned (.bool (colRun V rs kc f s l).2) ∧ ∃ m' : LateX (XX bv cB) W, w' = m'.w ∧
          ((colRun V rs kc f s l).2 = true → Blk m'.w bv #[enc (colRun V rs kc f s l).1] T0 ∧ ∃ ao cap, ao ≠ none ∧ Blk m'.w cB #[.slice ao l.length cap] 24 ∧ OwnE m'.w W.heap.size ao cap l) ∧
          ((colRun V rs kc f s l).2 = false → J (colRun V rs kc f s l).1 m'.w) := by
  have hg1 := g.pos
  have hg2 := g.le
  have lg := hg.lt
  have lv := hv.lt
  have lk := hkb.lt
  have ls := hs.lt
  have cg0 := hg.cell 0
  have cg1 := hg.cell 1
  have cv := hv.cell 0
  have ck := hkb.cell 0
  have cs := hs.cell 0
  simp at cg0 cg1 cv ck cs
  have HS := Lib.hid hs
  have hsc : sB ≠ cB := fun e => xs (.inr e)
  clear hg hv hkb hs
  have HhK := Lib.hid hK
  clear hK
  intro f
  induction f with
  | zero =>
    intro l s m ao cap hlf hbv hcc hown hao
    have hN : ((l.length : Int) == (rs.length : Int)) = true := by rw [beq_iff_eq]; omega
    have hcc0 := hcc.cell 0
    simp at hcc0
    have hll : l.length = rs.length := by omega
    have Hhll := Lib.hid hll
    clear hll
    go_enter Tryz.func109, Tryz.ntmps109
    go_wp2_with fail
    refine (HhK.out s l ao cap m.w hbv hown.ints Hhll.out hao hown.room).mono ?_
    rintro e w' ⟨rfl, hO, h1, h2⟩
    go_wp2_with fail
    go_ret
    refine ⟨rfl, ⟨w', m.only.trans (hO.mono m.size (fun b _ h => .inl h))⟩, rfl, fun h => ⟨h1 h, ao, cap, hao, hO.blk hcc hcc.lt (fun e => hne e.symm), hown.only hO (fun b hb h => by omega)⟩, h2⟩
  | succ f ih =>
    intro l s m ao cap hlf hbv hcc hown hao
    have hN : ((l.length : Int) == (rs.length : Int)) = false := by rw [beq_eq_false_iff_ne]; omega
    have hcc0 := hcc.cell 0
    simp at hcc0
    have hvl : l.length < rs.length := by omega
    have Hih := Lib.hid ih
    clear ih
    have Hhbv := Lib.hid hbv
    clear hbv
    have Hhcc := Lib.hid hcc
    clear hcc
    have Hhown := Lib.hid hown
    clear hown
    go_enter Tryz.func109, Tryz.ntmps109
    go_wp2_with fail
    clear hcc0
    go_loopw [21] (fun i wr => ∃ m : LateX (XX bv cB) W, wr = m.w ∧ ∃ (j : Nat) (s' : S), j ≤ kc ∧ i = .int .i64 j ∧ preB (fun c s => if freeTo rs l c l.length = true then colRun V rs kc f s (l ++ [(c : Int)]) else (s, true)) s j = (s', true) ∧ Blk m.w bv #[enc s'] T0 ∧ ∃ ao cap, ao ≠ none ∧ Blk m.w cB #[.slice ao l.length cap] 24 ∧ OwnE m.w W.heap.size ao cap l) (fun i _ => kc - (intOf i).toNat)
    case atStart => exact ⟨m, rfl, 0, s, by omega, rfl, rfl, Hhbv.out, ao, cap, hao, Hhcc.out, Hhown.out⟩
    case round =>
      clear Hhbv Hhcc Hhown hao
      obtain ⟨m, rfl, j, s', hj, rfl, hP, hbv, ao, cap, hao, hcc, hown⟩ := hrel
      have hcc0 := hcc.cell 0
      simp at hcc0
      have HhP := Lib.hid hP
      clear hP
      have Hhbv := Lib.hid hbv
      clear hbv
      have Hhcc := Lib.hid hcc
      clear hcc
      have Hhown := Lib.hid hown
      clear hown
      by_cases hlt : j < kc
      · go_wp2_with fail
        go_loopw [8, 26] (fun b i wr => wr = m.w ∧ ∃ t : Nat, t ≤ l.length ∧ i = .int .i64 t ∧ b = .bool (freeTo rs l j t)) (fun _ i _ => l.length - (intOf i).toNat)
        case atStart => exact ⟨rfl, 0, by omega, rfl, rfl⟩
        case round =>
          obtain ⟨rfl, t, ht, rfl, rfl⟩ := hrel
          by_cases htt : t < l.length
          · obtain ⟨lb, lofs, rfl, hlb, hlc⟩ := Hhown.out.ints (by omega)
            obtain ⟨rb, rofs, e', hrb, hrc⟩ := (hr m).graph g
            subst e'
            have hc1 := hlc t htt
            have hc2 := hrc l.length hvl
            have HU : Hid (freeTo rs l j (t + 1) = (freeTo rs l j t && !((gi l t == (j : Int)) && (gn rs l.length).testBit t))) := rfl
            have hA := fun w => has_any (gn rs l.length) t (by omega) (by omega) w
            simp only [Int.toNat_natCast, hasN_nat] at hA
            clear hlc hrc
            generalize gi l t = a at *
            cases hf : freeTo rs l j t
            · go_wp2_with fail
              go_roundw
              case rel => exact ⟨by trivial, t + 1, by omega, by go_num, by rw [HU.out, hf]; rfl⟩
              case measure => simp [intOf]; omega
            · cases he : (a == (j : Int))
              · go_wp2_with fail
                go_roundw
                case rel => exact ⟨by trivial, t + 1, by omega, by go_num, by rw [HU.out, hf, he]; rfl⟩
                case measure => simp [intOf]; omega
              · cases hb : (gn rs l.length).testBit t <;> simp only [hb] at hA
                · go_wp2_with (first | (go_at_call 61; refine (hA _).mono ?_; rintro e w' ⟨rfl, rfl⟩))
                  go_roundw
                  case rel => exact ⟨by trivial, t + 1, by omega, by go_num, by rw [HU.out, hf, he, hb]; rfl⟩
                  case measure => simp [intOf]; omega
                · go_wp2_with (first | (go_at_call 61; refine (hA _).mono ?_; rintro e w' ⟨rfl, rfl⟩))
                  go_roundw
                  case rel => exact ⟨by trivial, t + 1, by omega, by go_num, by rw [HU.out, hf, he, hb]; rfl⟩
                  case measure => simp [intOf]; omega
          · obtain rfl : t = l.length := by omega
            cases hF : freeTo rs l j l.length
            · go_wp2_with fail
              go_roundw
              case rel => exact ⟨m, rfl, j + 1, s', by omega, by go_num, by rw [preB_go HhP.out, if_neg (by rw [hF]; decide)], Hhbv.out, ao, cap, hao, Hhcc.out, Hhown.out⟩
              case measure => simp [intOf]; omega
            · have hms := m.size
              have HG := Lib.hid (preB_go HhP.out)
              rw [hF, if_pos rfl] at HG
              go_wp2_with (first | (at_builtin; go_must (refine wpList_append_e rfl _ _ rfl W.heap.size cap ao l (j : Int) rfl Hhown.out rfl hms (by omega) ?_); intro ao' cap' w1 hown1 hB1; have z1 := (Hhcc.out.below hB1 hcl).frozen 0; have z2 := (Hhcc.out.below hB1 hcl).cell 0; have z3 := (m.only.more hB1 (Nat.le_refl _)).cell (p := ⟨sB, 0, none⟩) ls xs))
              have only2 : Only (XX bv cB) W.heap.size W (w1.setCell ⟨cB, 0, none⟩ (.slice ao' (l.length + 1) cap')) := (m.only.more hB1 (Nat.le_refl _)).setCell (.inl (.inr rfl)) _
              have hbv2 : Blk (w1.setCell ⟨cB, 0, none⟩ (.slice ao' (l.length + 1) cap')) bv #[enc s'] T0 := (Hhbv.out.below hB1 hbl).other _ hne
              have hcc2 : Blk (w1.setCell ⟨cB, 0, none⟩ (.slice ao' (l.length + 1) cap')) cB #[.slice ao' (l ++ [(j : Int)]).length cap'] 24 := by
                have := (Hhcc.out.below hB1 hcl).store 0 (.slice ao' (l.length + 1) cap')
                simpa using this
              have how2 := hown1.setCell (a := ⟨cB, 0, none⟩) hcl (.slice ao' (l.length + 1) cap')
              have hao2 : ao' ≠ none := by obtain ⟨_, _, h, _, _⟩ := hown1.ints (by simp); rw [h]; simp
              refine (Hih.out (l ++ [(j : Int)]) s' ⟨_, only2⟩ ao' cap' (by simp; omega) hbv2 hcc2 how2 hao2).mono ?_
              clear only2 hbv2 hcc2 how2 hao2 z1 z2 z3 hown1 hB1
              rintro e w3 ⟨rfl, m3, rfl, hT, hFa⟩
              cases hp : (colRun V rs kc f s' (l ++ [(j : Int)])).2
              · have HhFa := Lib.hid hFa
                clear hFa
                clear hT
                go_wp2_with fail
                go_ret
                have HE : colRun V rs kc (f + 1) s l = colRun V rs kc f s' (l ++ [(j : Int)]) := (preB_stop (j := j + 1) (by rw [HG.out, hp]) kc (by omega)).trans HG.out
                exact ⟨by rw [HE, hp]; rfl, m3, rfl, fun h => absurd (h.symm.trans ((congrArg Prod.snd HE).trans hp)) (by decide), fun _ => by rw [HE]; exact HhFa.out hp⟩
              · obtain ⟨hb3, ao3, cap3, ha3, hc3, ho3⟩ := hT hp
                have hc30 := hc3.cell 0
                have hc31 := hc3.frozen 0
                have hroom := ho3.room
                obtain ⟨b3, off3, rfl, -, -⟩ := ho3.ints (by simp)
                simp at hc30 hroom
                have Hhb3 := Lib.hid hb3
                clear hb3
                have Hhc3 := Lib.hid hc3
                clear hc3
                have Hho3 := Lib.hid ho3
                clear ho3
                clear hT hFa ha3
                have hroom' : l.length ≤ cap3 := by omega
                go_wp2_with fail
                go_roundw
                case rel =>
                  refine ⟨⟨_, m3.only.setCell (p := ⟨cB, 0, none⟩) (.inl (.inr rfl)) _⟩, rfl, j + 1, (colRun V rs kc f s' (l ++ [(j : Int)])).1, by omega, by go_num, by rw [HG.out]; exact pair_eq hp, Hhb3.out.other _ hne, some ⟨b3, off3, none⟩, cap3, by simp, ?_, Hho3.out.take.setCell (a := ⟨cB, 0, none⟩) hcl _⟩
                  have := Hhc3.out.store 0 (.slice (some ⟨b3, off3, none⟩) l.length cap3)
                  simpa using this
                case measure => simp [intOf]; omega
      · obtain rfl : j = kc := by omega
        go_wp2_with fail
        go_ret
        have HE : colRun V rs j (f + 1) s l = (s', true) := HhP.out
        exact ⟨by rw [HE]; rfl, m, rfl, fun _ => by rw [HE]; exact ⟨Hhbv.out, ao, cap, hao, Hhcc.out, Hhown.out⟩, fun h => by rw [HE] at h; exact absurd h (by simp)⟩

end Go.Proofs.YtfkehmpckhmkbaaGreat

namespace Go.Proofs.YtfkehmpckhmkbaaGreat
open Go.RowKit

theorem alloc6 {w W1 : World} {c0 c1 c2 c3 c4 c5 : Array Value} {T0 T1 T2 T3 T4 T5 : TypeId} (h : ((((((w.alloc (.cells c0 T0)).alloc (.cells c1 T1)).alloc (.cells c2 T2)).alloc (.cells c3 T3)).alloc (.cells c4 T4)).alloc (.cells c5 T5)) = W1) :
    Below w.heap.size w W1 ∧ W1.heap.size = w.heap.size + 6 ∧ Blk W1 w.heap.size c0 T0 ∧ Blk W1 (w.heap.size + 1) c1 T1 ∧ Blk W1 (w.heap.size + 1 + 1) c2 T2 ∧ Blk W1 (w.heap.size + 1 + 1 + 1) c3 T3 ∧ Blk W1 (w.heap.size + 1 + 1 + 1 + 1) c4 T4 ∧ Blk W1 (w.heap.size + 1 + 1 + 1 + 1 + 1) c5 T5 := by
  obtain ⟨U, hU⟩ : ∃ U, (((w.alloc (.cells c0 T0)).alloc (.cells c1 T1)).alloc (.cells c2 T2)) = U := ⟨_, rfl⟩
  obtain ⟨b1, b2, b3, b4, b5⟩ := alloc3 hU
  rw [hU] at h
  obtain ⟨d1, d2, d3, d4, d5⟩ := alloc3 h
  rw [b2] at d1 d2 d3 d4 d5
  exact ⟨b1.trans (d1.mono (by omega)), d2, b3.below d1 (by omega), b4.below d1 (by omega), b5.below d1 (by omega), d3, d4, d5⟩

set_option maxRecDepth 100000 in
set_option maxHeartbeats 1000000 in
theorem colorings_any {S : Type} (V : S → List Int → S × Bool) (enc : S → Value) (J : S → World → Prop) (T0 : TypeId) (rs : List Int) (ro : Option Addr) (rc kc K bv : Nat) (s : S) (W0 w : World) (g : VG rs) (hk : kc ≤ 7)
    (hW0 : Below W0.heap.size W0 w) (hr : IntsAt W0 ro rs) (hb0 : W0.heap.size ≤ bv) (hb : Blk w bv #[enc s] T0)
    (hE : ∀ args w, Sem.run Tryz.prog (callFunc K args) w = .ok (.enter K args) w) (hK : VisitOf K V enc J T0 bv rs.length) :
    Calls Tryz.prog 96 #[.agg #[.int .i64 rs.length, .slice ro rs.length rc], .int .i64 kc, .func (.func K) #[] #[.pointer (some ⟨bv, 0, none⟩)]] w fun e w' =>
      e = .returned (.tuple #[]) ∧ Only (fun b => b = bv) w.heap.size w w' ∧ ((colRun V rs kc rs.length s []).2 = true → Blk w' bv #[enc (colRun V rs kc rs.length s []).1] T0) ∧ ((colRun V rs kc rs.length s []).2 = false → J (colRun V rs kc rs.length s []).1 w') := by
  have HhK := Lib.hid hK
  clear hK
  go_enter Tryz.func96, Tryz.ntmps96
  go_wp2_with fail
  generalize hW1 : World.alloc _ _ = W1
  obtain ⟨hB1, hs1, k0, k1, k2, k3, k4, k5⟩ := alloc6 hW1
  have hbl := hb.lt
  have hb2 := hb.below hB1 hbl
  refine (colSearch_any V enc J T0 rs ro rc kc K bv (w.heap.size + 1 + 1 + 1 + 1) w.heap.size (w.heap.size + 1 + 1) (w.heap.size + 1) (w.heap.size + 1 + 1 + 1 + 1 + 1) W1 g hk
    (fun m => hr.below ((hW0.trans (hB1.mono hW0.size)).trans (m.only.below (Nat.le_trans hW0.size hB1.size) (fun b hb h => by unfold XX at h; have := hW0.size; omega)))) k0 k2 k1 k5 (by omega) (by omega) (by omega) (by unfold XX; omega) (by unfold XX; omega) (by unfold XX; omega) (by unfold XX; omega) hE HhK.out
    rs.length [] s (LateX.refl _ W1) (some ⟨w.heap.size + 1 + 1 + 1, 0, none⟩) 0 (by simp) hb2 k4 (OwnE.empty _ _ _) (by simp)).mono ?_
  rintro e w' ⟨rfl, m', rfl, hT, hF⟩
  have hO : Only (fun b => b = bv) w.heap.size w m'.w := (Only.of hB1).trans (m'.only.mono hB1.size (fun b hb h => by unfold XX at h; omega))
  go_wp2_with fail
  go_end0
  exact ⟨rfl, hO, fun h => (hT h).1, hF⟩

end Go.Proofs.YtfkehmpckhmkbaaGreat

namespace Go.Proofs.YtfkehmpckhmkbaaGreat
open Go.RowKit

theorem wpList_append_copy {ops : Array Oper} {rest : List Oper} {o : Oper} {a : Act} {Q : Exit → Act → World → Prop} {w : World} (hgd : o.guard = none) (s x : Operand)
    (ho : o.op = .call { callee := .builtin .append, args := #[s, x], argTypes := #[24, 24] })
    (base B : Nat) (la : Addr) (l : List Int) (lc : Nat) (hs : a.eval s = .slice (some ⟨B, 0, none⟩) 0 0) (hx : a.eval x = .slice (some la) l.length lc) (hi : IntsAt w (some la) l) (hbase : base ≤ w.heap.size) (hlen : l.length ≤ 1048576)
    (h : ∀ ao' cap' w', ao' ≠ none → OwnE w' base ao' cap' l → Below w.heap.size w w' → wpList Tryz.prog ops Q rest (a.put o.dst (.slice ao' l.length cap')) w') : wpList Tryz.prog ops Q (o :: rest) a w :=
  wpList_plain hgd fun _ hK => wp_append_copy s x ho base B la l lc hs hx hi hbase hlen fun ao' cap' w' h1 h2 h3 => hK _ _ (h ao' cap' w' h1 h2 h3)

theorem OwnE.mono {w : World} {base base' cap : Nat} {ao : Option Addr} {xs : List Int} (h : OwnE w base ao cap xs) (hb : base' ≤ base) : OwnE w base' ao cap xs := h.imp (fun h => h.mono hb) id

/-! ### The first coloring -/
def lastV (_ : Option (List Int)) (l : List Int) : Option (List Int) × Bool := (some l, false)
/-- The first way to go on with colors. -/
def firstC (rs : List Int) (kc f : Nat) (l : List Int) : Option (List Int) := (colRun lastV rs kc f none l).1
theorem preB_last {step : Nat → Option (List Int) → Option (List Int) × Bool} (h : ∀ c, (step c none).2 = (step c none).1.isNone) : ∀ j, (preB step none j).2 = (preB step none j).1.isNone
  | 0 => rfl
  | j + 1 => by
    have ih := preB_last h j
    rw [preB]
    split
    · rename_i h1
      rw [h1] at ih
      have : (preB step none j).1 = none := by simpa using ih.symm
      rw [this]; exact h j
    · exact ih
theorem colRun_last (rs : List Int) (kc : Nat) : ∀ f l, (colRun lastV rs kc f none l).2 = (firstC rs kc f l).isNone
  | 0, l => rfl
  | f + 1, l => preB_last (fun c => by
      show (if freeTo rs l c l.length = true then colRun lastV rs kc f none (l ++ [(c : Int)]) else (none, true)).2 = (if freeTo rs l c l.length = true then colRun lastV rs kc f none (l ++ [(c : Int)]) else (none, true)).1.isNone
      split
      · exact colRun_last rs kc f _
      · rfl) kc
theorem firstC_len (rs : List Int) (kc : Nat) : ∀ f l x, firstC rs kc f l = some x → x.length = l.length + f
  | 0, l, x, h => by
    have : some l = some x := h
    simp only [Option.some.injEq] at this
    rw [← this, Nat.add_zero]
  | f + 1, l, x, h => by
    have hj : ∀ j, ∀ x, (preB (fun c s => if freeTo rs l c l.length = true then colRun lastV rs kc f s (l ++ [(c : Int)]) else (s, true)) none j).1 = some x → x.length = l.length + (f + 1) := by
      intro j
      induction j with
      | zero => intro x hx; cases hx
      | succ j ih =>
        intro x hx
        rw [preB] at hx
        split at hx
        · rename_i h2
          have hn : (preB (fun c s => if freeTo rs l c l.length = true then colRun lastV rs kc f s (l ++ [(c : Int)]) else (s, true)) none j).1 = none := by
            have := preB_last (step := fun c s => if freeTo rs l c l.length = true then colRun lastV rs kc f s (l ++ [(c : Int)]) else (s, true)) (fun c => by
              split
              · exact colRun_last rs kc f _
              · rfl) j
            rw [h2] at this
            simpa using this.symm
          rw [hn] at hx
          split at hx
          · have := firstC_len rs kc f _ x hx
            rw [this]; simp; omega
          · cases hx
        · exact ih x hx
    exact hj kc x h
/-- What ColoringWith says. -/
def colWith (n : Int) (rs : List Int) (k : Int) : Option (List Int) := if isGraphB n rs = true ∧ (decide (1 ≤ k) && decide (k ≤ 7)) = true then firstC rs k.toNat rs.length [] else none
theorem colWith_no {n : Int} {rs : List Int} {k : Int} (h : isGraphB n rs = false) : colWith n rs k = none := by unfold colWith; rw [if_neg]; rintro ⟨a, -⟩; rw [h] at a; cases a
theorem colWith_out {n : Int} {rs : List Int} {k : Int} (h : (decide (1 ≤ k) && decide (k ≤ 7)) = false) : colWith n rs k = none := by unfold colWith; rw [if_neg]; rintro ⟨-, a⟩; rw [h] at a; cases a
theorem colWith_of {n : Int} {rs : List Int} {k : Nat} (h : isGraphB n rs = true) (h1 : (decide (1 ≤ (k : Int)) && decide ((k : Int) ≤ 7)) = true) : colWith n rs k = firstC rs k rs.length [] := by unfold colWith; rw [if_pos ⟨h, h1⟩]; rfl

/-- What the visitor of ColoringWith leaves in its variable. -/
def KeptL (bv : Nat) (s : Option (List Int)) (w : World) : Prop := ∃ ao cap, ao ≠ none ∧ Blk w bv #[.slice ao (s.getD []).length cap] 24 ∧ OwnE w (bv + 1) ao cap (s.getD [])

set_option maxRecDepth 100000 in
theorem lastVisit (bv N : Nat) (hN7 : N ≤ 7) : VisitOf 97 lastV (fun _ => .slice none 0 0) (KeptL bv) 24 bv N := by
  intro s l ao cap w hb hl hN hne hc
  obtain ⟨la, rfl⟩ := Option.ne_none_iff_exists'.1 hne
  have z1 := hb.cell 0
  have z2 := hb.frozen 0
  simp at z1
  have hlt := hb.lt
  have hl7 : l.length ≤ 1048576 := by omega
  clear hN hne
  have Hhb := Lib.hid hb
  clear hb
  go_enter Tryz.func97, Tryz.ntmps97
  go_wp2_with (first | (at_builtin; go_must (refine wpList_append_copy rfl _ _ rfl (bv + 1) _ la l cap rfl rfl (hl.below ((Below.refl _ _).alloc (Nat.le_refl _) _)) (by simp; omega) hl7 ?_); intro ao1 cap1 w1 hne1 hown1 hBw1; have y1 := (Hhb.out.alloc (.cells #[] 3)).below hBw1 (by simp; omega); have y2 := y1.cell 0; have y3 := y1.frozen 0))
  go_ret
  refine ⟨rfl, (Only.of (X := fun b => b = bv) (((Below.refl _ _).alloc (Nat.le_refl _) _).trans (hBw1.mono (by simp)))).setCell (p := ⟨bv, 0, none⟩) (.inl rfl) _, fun h => absurd h (by simp [lastV]), fun _ => ⟨ao1, cap1, hne1, ?_, hown1.setCell (a := ⟨bv, 0, none⟩) (Nat.lt_succ_self _) _⟩⟩
  have := y1.store 0 (.slice ao1 l.length cap1)
  simpa [lastV] using this

/-- What ColoringWith hands back. -/
def RetC (w : World) (s : Option (List Int)) (e : Ending) (w' : World) : Prop := ∃ ao cap, e = .returned (.tuple #[.slice ao (s.getD []).length cap, .bool s.isSome]) ∧ Below w.heap.size w w' ∧ OwnE w' w.heap.size ao cap (s.getD [])

set_option maxRecDepth 100000 in
set_option maxHeartbeats 1000000 in
theorem implColW_any (n : Int) (rs : List Int) (k : Int) (ro : Option Addr) (rc : Nat) (w : World) (hr : IntsAt w ro rs) (hrl : rs.length ≤ 1048576) :
    Calls Tryz.prog 65 #[.agg #[.int .i64 n, .slice ro rs.length rc], .int .i64 k] w (RetC w (colWith n rs k)) := by
  have q22 : ∀ (w : World) (a : Option Addr) (n c n' c' : Nat), (binOp .neq 24 (.slice a n c) (.slice none n' c')).run Tryz.prog w = .ok (.bool (!a.isNone)) w := fun w a n c n' c' => run_neq_slice_nil_any w _ _ a n c n' c' Tryz.underlying24
  go_enter Tryz.func65, Tryz.ntmps65
  go_wp2_with fail
  generalize hW : w.alloc _ = W1
  obtain ⟨hB, -, k0⟩ := alloc1 hW
  replace hr := hr.below hB
  have hb0 := k0.lt
  have hc0 := k0.cell 0
  have hc1 := k0.cell 1
  simp at hc0 hc1
  clear hW k0
  have HhB := Lib.hid hB
  clear hB
  obtain ⟨m, hm0⟩ : ∃ m : Later W1, m.w = W1 := ⟨Later.refl _, rfl⟩
  refine (fun h => hm0 ▸ h) ?_
  clear hm0
  cases hw : (decide (1 ≤ k) && decide (k ≤ 7))
  · have HE := Lib.hid (colWith_out (n := n) (rs := rs) hw)
    go_wp2_with (first | (go_at_call 60; refine (within_any _ _ _ _).mono ?_; rintro e w' ⟨rfl, rfl⟩))
    go_ret2
    refine ⟨none, 0, by rw [HE.out]; rfl, below_later HhB.out m, by rw [HE.out]; exact .inl (OwnL.nil _ _)⟩
  cases hv : isGraphB n rs
  · have HE := Lib.hid (colWith_no (k := k) hv)
    go_wp2_with (first | (go_at_call 60; refine (within_any _ _ _ _).mono ?_; rintro e w' ⟨rfl, rfl⟩) | (go_at_call 34; refine (Calls.later m (implIsGraph_any _ _ _ _ _ (hr.later m) hrl)).mono ?_; rintro e w' ⟨rfl, m, rfl⟩))
    go_ret2
    refine ⟨none, 0, by rw [HE.out]; rfl, below_later HhB.out m, by rw [HE.out]; exact .inl (OwnL.nil _ _)⟩
  · obtain ⟨rfl, g⟩ := VG.of hv
    have hw' := hw
    simp only [Bool.and_eq_true, decide_eq_true_eq] at hw'
    obtain ⟨k, rfl⟩ : ∃ k' : Nat, k = k' := ⟨k.toNat, by omega⟩
    have hk : k ≤ 7 := by omega
    clear hw'
    have HE := Lib.hid (colWith_of hv hw)
    go_wp2_with (first | (go_at_call 60; refine (within_any _ _ _ _).mono ?_; rintro e w' ⟨rfl, rfl⟩) | (go_at_call 34; refine (Calls.later m (implIsGraph_any _ _ _ _ _ (hr.later m) hrl)).mono ?_; rintro e w' ⟨rfl, m, rfl⟩; have hbm := Nat.lt_of_lt_of_le hb0 m.size))
    generalize hW2 : m.w.alloc (.cells #[.slice none 0 0] 24) = W2
    obtain ⟨hB2, -, k2⟩ := alloc1 hW2
    refine (colorings_any lastV (fun _ => .slice none 0 0) (KeptL m.w.heap.size) 24 rs ro rc k 97 m.w.heap.size none m.w W2 g hk hB2 (hr.later m) (Nat.le_refl _) k2 (fun _ _ => rfl) (lastVisit _ _ g.le)).mono ?_
    rintro e w3 ⟨rfl, hO, h1, h2⟩
    have hB3 : Below w.heap.size w w3 := (below_later HhB.out m).trans ((hB2.mono (Nat.le_of_lt hbm)).trans (hO.below (Nat.le_trans (Nat.le_of_lt hbm) hB2.size) (fun b hb h => by omega)))
    rw [colRun_last] at h1 h2
    have HF : Hid ((colRun lastV rs k rs.length none []).1 = firstC rs k rs.length []) := rfl
    rw [HF.out] at h2
    have hml := HhB.out.size
    have hms := m.size
    clear HF hB2 hW2 k2 hO
    generalize firstC rs k rs.length [] = O at *
    have HhB3 := Lib.hid hB3
    clear hB3
    rcases O with _ | x
    · have k3 := h1 rfl
      have z1 := k3.cell 0
      simp at z1
      have z0 := k3.lt
      obtain ⟨m3, hm0⟩ : ∃ m : Later w3, m.w = w3 := ⟨Later.refl _, rfl⟩
      refine (fun h => hm0 ▸ h) ?_
      clear hm0
      go_wp2_with fail
      refine wp_region_later m3 rfl (by kernel_rfl) (by kernel_rfl) ?_
      repeat (go_big_quiet_step (fail))
      refine wpQuiet_nil ?_
      rintro _ ⟨m3, rfl⟩
      go_wp2_with fail
      go_ret2
      refine ⟨none, 0, by rw [HE.out]; rfl, HhB3.out.trans (m3.below.mono HhB3.out.size), by rw [HE.out]; exact .inl (OwnL.nil _ _)⟩
    · obtain ⟨ao, cap, hne, k3, hown⟩ := h2 rfl
      obtain ⟨la, rfl⟩ := Option.ne_none_iff_exists'.1 hne
      have z1 := k3.cell 0
      simp at z1
      have z0 := k3.lt
      have Hk3 := Lib.hid k3
      clear k3
      have Hhown := Lib.hid hown
      clear hown
      clear h1 h2 hne
      obtain ⟨m3, hm0⟩ : ∃ m : Later w3, m.w = w3 := ⟨Later.refl _, rfl⟩
      refine (fun h => hm0 ▸ h) ?_
      clear hm0
      go_wp2_with fail
      refine wp_region_later m3 rfl (by kernel_rfl) (by kernel_rfl) ?_
      repeat (go_big_quiet_step (fail))
      refine wpQuiet_nil ?_
      rintro _ ⟨m3, rfl⟩
      go_wp2_with fail
      go_ret2
      refine ⟨some la, cap, by rw [HE.out]; rfl, HhB3.out.trans (m3.below.mono HhB3.out.size), ?_⟩
      rw [HE.out]
      exact (Hhown.out.mono (by omega)).later m3

/-! ### ChromaticNumber -/
/-- What ChromaticNumber says. -/
def chromV (n : Int) (rs : List Int) : Int := match firstB (fun j => (colWith n rs ((j + 1 : Nat) : Int)).isSome) 7 with | some j => ((j + 1 : Nat) : Int) | none => -1
theorem chromV_hit {n : Int} {rs : List Int} {k : Nat} (hk : k < 7) (h : ∀ j, j < k → (colWith n rs ((j + 1 : Nat) : Int)).isSome = false) (hp : (colWith n rs ((k + 1 : Nat) : Int)).isSome = true) : chromV n rs = ((k + 1 : Nat) : Int) := by
  unfold chromV; rw [firstB_hit hk h hp]
theorem chromV_none {n : Int} {rs : List Int} (h : ∀ j, j < 7 → (colWith n rs ((j + 1 : Nat) : Int)).isSome = false) : chromV n rs = -1 := by
  unfold chromV; rw [firstB_none h]

set_option maxRecDepth 100000 in
set_option maxHeartbeats 1000000 in
theorem implChrom_any (n : Int) (rs : List Int) (ro : Option Addr) (rc : Nat) (w : World) (hr : IntsAt w ro rs) (hrl : rs.length ≤ 1048576) :
    Calls Tryz.prog 38 #[.agg #[.int .i64 n, .slice ro rs.length rc]] w fun e w' => e = .returned (.int .i64 (chromV n rs)) ∧ Below w.heap.size w w' := by
  go_enter Tryz.func38, Tryz.ntmps38
  go_wp2_with fail
  generalize hW : w.alloc _ = W1
  obtain ⟨hB, -, k0⟩ := alloc1 hW
  replace hr := hr.below hB
  have hb0 := k0.lt
  have hc0 := k0.cell 0
  have hc1 := k0.cell 1
  simp at hc0 hc1
  clear hW k0
  have HhB := Lib.hid hB
  clear hB
  go_loopw [3] (fun i wr => (∃ m : Later W1, wr = m.w) ∧ ∃ k : Nat, k ≤ 7 ∧ i = .int .i64 (k + 1 : Nat) ∧ ∀ j, j < k → (colWith n rs ((j + 1 : Nat) : Int)).isSome = false) (fun i _ => 8 - (intOf i).toNat)
  case atStart => exact ⟨⟨Later.refl _, rfl⟩, 0, by omega, rfl, fun j h => by omega⟩
  case round =>
    obtain ⟨⟨m, rfl⟩, k, hk, rfl, hP⟩ := hrel
    have HhP := Lib.hid hP
    clear hP
    by_cases hlt : k < 7
    · have hk7 : decide (((k + 1 : Nat) : Int) ≤ 7) = true := decide_eq_true (by omega)
      have hC := fun m : Later W1 => implColW_any n rs ((k + 1 : Nat) : Int) ro rc m.w (hr.later m) hrl
      have HN := Lib.hid (fun h => all_succ (p := fun j => (colWith n rs ((j + 1 : Nat) : Int)).isSome = false) HhP.out h)
      have HH := Lib.hid (fun h => chromV_hit (n := n) (rs := rs) hlt HhP.out h)
      generalize hO : colWith n rs ((k + 1 : Nat) : Int) = O at *
      have HhO := Lib.hid hO
      clear hO
      cases hs : O.isSome
      · go_wp2_with (first | (go_at_call 65; refine (hC m).mono ?_; rintro e w3 ⟨ao, cap, rfl, hB3, -⟩; obtain ⟨m, rfl⟩ : ∃ m2 : Later W1, m2.w = w3 := ⟨m.on hB3, rfl⟩; clear hB3))
        go_roundw
        case rel => exact ⟨⟨m, rfl⟩, k + 1, by omega, by go_num, HN.out hs⟩
        case measure => simp [intOf]; omega
      · go_wp2_with (first | (go_at_call 65; refine (hC m).mono ?_; rintro e w3 ⟨ao, cap, rfl, hB3, -⟩; obtain ⟨m, rfl⟩ : ∃ m2 : Later W1, m2.w = w3 := ⟨m.on hB3, rfl⟩; clear hB3))
        go_ret
        exact ⟨retI (by rw [HH.out hs]; omega), below_later HhB.out m⟩
    · obtain rfl : k = 7 := by omega
      have HE := Lib.hid (chromV_none HhP.out)
      go_wp2_with fail
      go_ret
      exact ⟨retI (by rw [HE.out]), below_later HhB.out m⟩

end Go.Proofs.YtfkehmpckhmkbaaGreat
