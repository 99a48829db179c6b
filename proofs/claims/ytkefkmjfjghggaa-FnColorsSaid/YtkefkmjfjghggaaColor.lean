/-
  The search of colorings of the program, for whatever visitor. For at most 7 colors.
-/
import Derived.Test.YtkefkmjfjghggaaAppend
import Derived.Test.YtkefkmjfjghggaaFrame
namespace Go.Proofs.Ytkefkmjfjghggaa
open Go.RowKit

theorem OwnE.room {w : World} {base cap : Nat} {ao : Option Addr} {xs : List Int} (h : OwnE w base ao cap xs) : xs.length ≤ cap := by
  rcases h with ⟨hl, ⟨h1, h2⟩ | ⟨g, cp, cur, hv, hg, hb, hn, hm, hsz, ht⟩⟩ | ⟨rfl, -, -⟩
  · omega
  · simp only [Value.slice.injEq] at hv
    omega
  · simp
theorem OwnE.take {w : World} {base cap : Nat} {ao : Option Addr} {xs : List Int} {y : Int} (h : OwnE w base ao cap (xs ++ [y])) : OwnE w base ao cap xs := by
  rcases h with ⟨hl, ⟨h1, h2⟩ | ⟨g, cp, cur, hv, hg, hb, hn, hm, hsz, ht⟩⟩ | ⟨h, -, -⟩
  · simp at h2
  · simp only [Value.slice.injEq] at hv
    obtain ⟨rfl, -, rfl⟩ := hv
    refine .inl ⟨by simp, .inr ⟨g, cap, cur, rfl, hg, hb, ?_, hm, hsz, ?_⟩⟩
    · simp at hn; omega
    · have := congrArg (List.take (xs.length * 1)) ht
      rw [List.take_take] at this
      simpa using this
  · simp at h
theorem OwnE.setCell {w : World} {base cap : Nat} {ao : Option Addr} {xs : List Int} (h : OwnE w base ao cap xs) {a : Addr} (ha : a.block < base) (u : Value) : OwnE (w.setCell a u) base ao cap xs :=
  h.imp (fun h => ownsRow_setCell_below h ha u) id

theorem OwnE.only {X : Nat → Prop} {w w' : World} {base cap : Nat} {ao : Option Addr} {xs : List Int} (h : OwnE w base ao cap xs) (k : Only X w.heap.size w w') (hX : ∀ b, base ≤ b → ¬X b) : OwnE w' base ao cap xs := by
  rcases h with ⟨hl, h1 | ⟨g, cp, cur, hv, hg, hb, hr⟩⟩ | h
  · exact .inl ⟨hl, .inl h1⟩
  · exact .inl ⟨hl, .inr ⟨g, cp, cur, hv, hg, by rw [k.block g (Array.getElem?_eq_some_iff.1 hb).1 (hX g hg)]; exact hb, hr⟩⟩
  · exact .inr h

/-! ### The plain search -/
def clash (rs l : List Int) (c t : Nat) : Bool := (gi l t == (c : Int)) && (gn rs l.length).testBit t
def freeTo (rs l : List Int) (c : Nat) : Nat → Bool
  | 0 => true
  | t + 1 => freeTo rs l c t && !clash rs l c t
def preB {S : Type} (step : Nat → S → S × Bool) (s : S) : Nat → S × Bool
  | 0 => (s, true)
  | j + 1 => if (preB step s j).2 = true then step j (preB step s j).1 else preB step s j
def colRun {S : Type} (V : S → List Int → S × Bool) (rs : List Int) (kc : Nat) : Nat → S → List Int → S × Bool
  | 0, s, l => V s l
  | f + 1, s, l => preB (fun c s => if freeTo rs l c l.length = true then colRun V rs kc f s (l ++ [(c : Int)]) else (s, true)) s kc
theorem preB_go {S : Type} {step : Nat → S → S × Bool} {s s' : S} {j : Nat} (h : preB step s j = (s', true)) : preB step s (j + 1) = step j s' := by
  rw [preB, h]; rfl
theorem preB_stop {S : Type} {step : Nat → S → S × Bool} {s : S} {j : Nat} (h : (preB step s j).2 = false) : ∀ i, j ≤ i → preB step s i = preB step s j
  | 0, hi => by obtain rfl : j = 0 := by omega
                rfl
  | i + 1, hi => by
    rcases Nat.lt_or_ge i j with h1 | h1
    · obtain rfl : j = i + 1 := by omega
      rfl
    · have e := preB_stop h i h1
      rw [preB, e, h]; rfl
theorem pair_eq {S : Type} {p : S × Bool} {b : Bool} (h : p.2 = b) : p = (p.1, b) := by rw [← h]

/-- The blocks that the search may write: the visitor's variable and its own list of colors. -/
def XX (bv cB b : Nat) : Prop := b = bv ∨ b = cB

/-- What a visitor does. -/
def VisitOf {S : Type} (K : Nat) (V : S → List Int → S × Bool) (enc : S → Value) (J : S → World → Prop) (T0 : TypeId) (bv N : Nat) : Prop :=
  ∀ (s : S) (l : List Int) (ao : Option Addr) (cap : Nat) (w : World), Blk w bv #[enc s] T0 → IntsAt w ao l → l.length = N → ao ≠ none → l.length ≤ cap → Calls Try.prog K #[.slice ao l.length cap, .pointer (some ⟨bv, 0, none⟩)] w fun e w' =>
    e = .returned (.bool (V s l).2) ∧ Only (fun b => b = bv) w.heap.size w w' ∧ ((V s l).2 = true → Blk w' bv #[enc (V s l).1] T0) ∧ ((V s l).2 = false → J (V s l).1 w')

set_option maxRecDepth 100000 in
set_option maxHeartbeats 1000000 in
theorem colSearch_any {S : Type} (V : S → List Int → S × Bool) (enc : S → Value) (J : S → World → Prop) (T0 : TypeId) (rs : List Int) (ro : Option Addr) (rc kc K bv cB gB vB kB sB : Nat) (W : World) (g : VG rs) (hk : kc ≤ 7)
    (hr : ∀ m : LateX (XX bv cB) W, IntsAt m.w ro rs) (hg : Blk W gB #[.int .i64 rs.length, .slice ro rs.length rc] 26) (hv : Blk W vB #[.func (.func K) #[] #[.pointer (some ⟨bv, 0, none⟩)]] 59) (hkb : Blk W kB #[.int .i64 kc] 3)
    (hs : Blk W sB #[.func (.func 137) #[] #[.pointer (some ⟨cB, 0, none⟩), .pointer (some ⟨gB, 0, none⟩), .pointer (some ⟨vB, 0, none⟩), .pointer (some ⟨kB, 0, none⟩), .pointer (some ⟨sB, 0, none⟩)]] 91)
    (hcl : cB < W.heap.size) (hbl : bv < W.heap.size) (hne : bv ≠ cB) (xg : ¬XX bv cB gB) (xv : ¬XX bv cB vB) (xk : ¬XX bv cB kB) (xs : ¬XX bv cB sB)
    (hE : ∀ args w, Sem.run Try.prog (callFunc K args) w = .ok (.enter K args) w) (hK : VisitOf K V enc J T0 bv rs.length) :
    ∀ (f : Nat) (l : List Int) (s : S) (m : LateX (XX bv cB) W) (ao : Option Addr) (cap : Nat), l.length + f = rs.length → Blk m.w bv #[enc s] T0 → Blk m.w cB #[.slice ao l.length cap] 24 → OwnE m.w W.heap.size ao cap l → ao ≠ none →
      Calls Try.prog 137 #[.pointer (some ⟨cB, 0, none⟩), .pointer (some ⟨gB, 0, none⟩), .pointer (some ⟨vB, 0, none⟩), .pointer (some ⟨kB, 0, none⟩), .pointer (some ⟨sB, 0, none⟩)] m.w fun e w' =>
        e = .returned (.bool (colRun V rs kc f s l).2) ∧ ∃ m' : LateX (XX bv cB) W, w' = m'.w ∧
          ((colRun V rs kc f s l).2 = true → Blk m'.w bv #[enc (colRun V rs kc f s l).1] T0 ∧ ∃ ao cap, ao ≠ none ∧ Blk m'.w cB #[.slice ao l.length cap] 24 ∧ OwnE m'.w W.heap.size ao cap l) ∧
          ((colRun V rs kc f s l).2 = false → J (colRun V rs kc f s l).1 m'.w) := by
  have hg1 := g.pos
  have hg2 := g.le
  have lg := hg.lt
  have lv := hv.lt
  have lk := hkb.lt
  have ls := hs.lt
  have cg0 := hg.cell 0
  have cg1 := hg.cell 1
  have cv := hv.cell 0
  have ck := hkb.cell 0
  have cs := hs.cell 0
  simp at cg0 cg1 cv ck cs
  have HS := Lib.hid hs
  have hsc : sB ≠ cB := fun e => xs (.inr e)
  clear hg hv hkb hs
  have HhK := Lib.hid hK
  clear hK
  intro f
  induction f with
  | zero =>
    intro l s m ao cap hlf hbv hcc hown hao
    have hN : ((l.length : Int) == (rs.length : Int)) = true := by rw [beq_iff_eq]; omega
    have hcc0 := hcc.cell 0
    simp at hcc0
    have hll : l.length = rs.length := by omega
    have Hhll := Lib.hid hll
    clear hll
    go_enter Try.func137, Try.ntmps137
    go_wp2_with fail
    refine (HhK.out s l ao cap m.w hbv hown.ints Hhll.out hao hown.room).mono ?_
    rintro e w' ⟨rfl, hO, h1, h2⟩
    go_wp2_with fail
    go_ret
    refine ⟨rfl, ⟨w', m.only.trans (hO.mono m.size (fun b _ h => .inl h))⟩, rfl, fun h => ⟨h1 h, ao, cap, hao, hO.blk hcc hcc.lt (fun e => hne e.symm), hown.only hO (fun b hb h => by omega)⟩, h2⟩
  | succ f ih =>
    intro l s m ao cap hlf hbv hcc hown hao
    have hN : ((l.length : Int) == (rs.length : Int)) = false := by rw [beq_eq_false_iff_ne]; omega
    have hcc0 := hcc.cell 0
    simp at hcc0
    have hvl : l.length < rs.length := by omega
    have Hih := Lib.hid ih
    clear ih
    have Hhbv := Lib.hid hbv
    clear hbv
    have Hhcc := Lib.hid hcc
    clear hcc
    have Hhown := Lib.hid hown
    clear hown
    go_enter Try.func137, Try.ntmps137
    go_wp2_with fail
    clear hcc0
    go_loopw [21] (fun i wr => ∃ m : LateX (XX bv cB) W, wr = m.w ∧ ∃ (j : Nat) (s' : S), j ≤ kc ∧ i = .int .i64 j ∧ preB (fun c s => if freeTo rs l c l.length = true then colRun V rs kc f s (l ++ [(c : Int)]) else (s, true)) s j = (s', true) ∧ Blk m.w bv #[enc s'] T0 ∧ ∃ ao cap, ao ≠ none ∧ Blk m.w cB #[.slice ao l.length cap] 24 ∧ OwnE m.w W.heap.size ao cap l) (fun i _ => kc - (intOf i).toNat)
    case atStart => exact ⟨m, rfl, 0, s, by omega, rfl, rfl, Hhbv.out, ao, cap, hao, Hhcc.out, Hhown.out⟩
    case round =>
      clear Hhbv Hhcc Hhown hao
      obtain ⟨m, rfl, j, s', hj, rfl, hP, hbv, ao, cap, hao, hcc, hown⟩ := hrel
      have hcc0 := hcc.cell 0
      simp at hcc0
      have HhP := Lib.hid hP
      clear hP
      have Hhbv := Lib.hid hbv
      clear hbv
      have Hhcc := Lib.hid hcc
      clear hcc
      have Hhown := Lib.hid hown
      clear hown
      by_cases hlt : j < kc
      · go_wp2_with fail
        go_loopw [8, 26] (fun b i wr => wr = m.w ∧ ∃ t : Nat, t ≤ l.length ∧ i = .int .i64 t ∧ b = .bool (freeTo rs l j t)) (fun _ i _ => l.length - (intOf i).toNat)
        case atStart => exact ⟨rfl, 0, by omega, rfl, rfl⟩
        case round =>
          obtain ⟨rfl, t, ht, rfl, rfl⟩ := hrel
          by_cases htt : t < l.length
          · obtain ⟨lb, lofs, rfl, hlb, hlc⟩ := Hhown.out.ints (by omega)
            obtain ⟨rb, rofs, e', hrb, hrc⟩ := (hr m).graph g
            subst e'
            have hc1 := hlc t htt
            have hc2 := hrc l.length hvl
            have HU : Hid (freeTo rs l j (t + 1) = (freeTo rs l j t && !((gi l t == (j : Int)) && (gn rs l.length).testBit t))) := rfl
            have hA := fun w => has_any (gn rs l.length) t (by omega) (by omega) w
            simp only [Int.toNat_natCast, hasN_nat] at hA
            clear hlc hrc
            generalize gi l t = a at *
            cases hf : freeTo rs l j t
            · go_wp2_with fail
              go_roundw
              case rel => exact ⟨by trivial, t + 1, by omega, by go_num, by rw [HU.out, hf]; rfl⟩
              case measure => simp [intOf]; omega
            · cases he : (a == (j : Int))
              · go_wp2_with fail
                go_roundw
                case rel => exact ⟨by trivial, t + 1, by omega, by go_num, by rw [HU.out, hf, he]; rfl⟩
                case measure => simp [intOf]; omega
              · cases hb : (gn rs l.length).testBit t <;> simp only [hb] at hA
                · go_wp2_with (first | (go_at_call 75; refine (hA _).mono ?_; rintro e w' ⟨rfl, rfl⟩))
                  go_roundw
                  case rel => exact ⟨by trivial, t + 1, by omega, by go_num, by rw [HU.out, hf, he, hb]; rfl⟩
                  case measure => simp [intOf]; omega
                · go_wp2_with (first | (go_at_call 75; refine (hA _).mono ?_; rintro e w' ⟨rfl, rfl⟩))
                  go_roundw
                  case rel => exact ⟨by trivial, t + 1, by omega, by go_num, by rw [HU.out, hf, he, hb]; rfl⟩
                  case measure => simp [intOf]; omega
          · obtain rfl : t = l.length := by omega
            cases hF : freeTo rs l j l.length
            · go_wp2_with fail
              go_roundw
              case rel => exact ⟨m, rfl, j + 1, s', by omega, by go_num, by rw [preB_go HhP.out, if_neg (by rw [hF]; decide)], Hhbv.out, ao, cap, hao, Hhcc.out, Hhown.out⟩
              case measure => simp [intOf]; omega
            · have hms := m.size
              have HG := Lib.hid (preB_go HhP.out)
              rw [hF, if_pos rfl] at HG
              go_wp2_with (first | (at_builtin; go_must (refine wpList_append_e rfl _ _ rfl W.heap.size cap ao l (j : Int) rfl Hhown.out rfl hms (by omega) ?_); intro ao' cap' w1 hown1 hB1; have z1 := (Hhcc.out.below hB1 hcl).frozen 0; have z2 := (Hhcc.out.below hB1 hcl).cell 0; have z3 := (m.only.more hB1 (Nat.le_refl _)).cell (p := ⟨sB, 0, none⟩) ls xs))
              have only2 : Only (XX bv cB) W.heap.size W (w1.setCell ⟨cB, 0, none⟩ (.slice ao' (l.length + 1) cap')) := (m.only.more hB1 (Nat.le_refl _)).setCell (.inl (.inr rfl)) _
              have hbv2 : Blk (w1.setCell ⟨cB, 0, none⟩ (.slice ao' (l.length + 1) cap')) bv #[enc s'] T0 := (Hhbv.out.below hB1 hbl).other _ hne
              have hcc2 : Blk (w1.setCell ⟨cB, 0, none⟩ (.slice ao' (l.length + 1) cap')) cB #[.slice ao' (l ++ [(j : Int)]).length cap'] 24 := by
                have := (Hhcc.out.below hB1 hcl).store 0 (.slice ao' (l.length + 1) cap')
                simpa using this
              have how2 := hown1.setCell (a := ⟨cB, 0, none⟩) hcl (.slice ao' (l.length + 1) cap')
              have hao2 : ao' ≠ none := by obtain ⟨_, _, h, _, _⟩ := hown1.ints (by simp); rw [h]; simp
              refine (Hih.out (l ++ [(j : Int)]) s' ⟨_, only2⟩ ao' cap' (by simp; omega) hbv2 hcc2 how2 hao2).mono ?_
              clear only2 hbv2 hcc2 how2 hao2 z1 z2 z3 hown1 hB1
              rintro e w3 ⟨rfl, m3, rfl, hT, hFa⟩
              cases hp : (colRun V rs kc f s' (l ++ [(j : Int)])).2
              · have HhFa := Lib.hid hFa
                clear hFa
                clear hT
                go_wp2_with fail
                go_ret
                have HE : colRun V rs kc (f + 1) s l = colRun V rs kc f s' (l ++ [(j : Int)]) := (preB_stop (j := j + 1) (by rw [HG.out, hp]) kc (by omega)).trans HG.out
                exact ⟨by rw [HE, hp]; rfl, m3, rfl, fun h => absurd (h.symm.trans ((congrArg Prod.snd HE).trans hp)) (by decide), fun _ => by rw [HE]; exact HhFa.out hp⟩
              · obtain ⟨hb3, ao3, cap3, ha3, hc3, ho3⟩ := hT hp
                have hc30 := hc3.cell 0
                have hc31 := hc3.frozen 0
                have hroom := ho3.room
                obtain ⟨b3, off3, rfl, -, -⟩ := ho3.ints (by simp)
                simp at hc30 hroom
                have Hhb3 := Lib.hid hb3
                clear hb3
                have Hhc3 := Lib.hid hc3
                clear hc3
                have Hho3 := Lib.hid ho3
                clear ho3
                clear hT hFa ha3
                have hroom' : l.length ≤ cap3 := by omega
                go_wp2_with fail
                go_roundw
                case rel =>
                  refine ⟨⟨_, m3.only.setCell (p := ⟨cB, 0, none⟩) (.inl (.inr rfl)) _⟩, rfl, j + 1, (colRun V rs kc f s' (l ++ [(j : Int)])).1, by omega, by go_num, by rw [HG.out]; exact pair_eq hp, Hhb3.out.other _ hne, some ⟨b3, off3, none⟩, cap3, by simp, ?_, Hho3.out.take.setCell (a := ⟨cB, 0, none⟩) hcl _⟩
                  have := Hhc3.out.store 0 (.slice (some ⟨b3, off3, none⟩) l.length cap3)
                  simpa using this
                case measure => simp [intOf]; omega
      · obtain rfl : j = kc := by omega
        go_wp2_with fail
        go_ret
        have HE : colRun V rs j (f + 1) s l = (s', true) := HhP.out
        exact ⟨by rw [HE]; rfl, m, rfl, fun _ => by rw [HE]; exact ⟨Hhbv.out, ao, cap, hao, Hhcc.out, Hhown.out⟩, fun h => by rw [HE] at h; exact absurd h (by simp)⟩

end Go.Proofs.Ytkefkmjfjghggaa
