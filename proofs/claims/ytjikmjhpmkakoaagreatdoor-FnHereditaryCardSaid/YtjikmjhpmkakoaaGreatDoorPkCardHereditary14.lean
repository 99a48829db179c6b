/-
  The drawing of graphs that often have a hole: l4Holey, and the functions that draw for colours. For texts of at most 2^20 bytes.
  Lists of slices ([][]int) that a call itself makes and appends to.
  The walks of IsClique and IsCliqueCover on both sides. For at most 2^20 rows and sets.
  The walks of IsOrder and CutOf on both sides, l27Front of the reference. For at most 2^20 rows and list elements.
-/
import Derived.Test.YtjikmjhpmkakoaaGreatDoorPkCardHereditary13
import Derived.Test.YtjikmjhpmkakoaaGreatDoorPkCardHereditary02
import Derived.Test.YtjikmjhpmkakoaaGreatDoorPkCardHereditary06
import Derived.Test.YtjikmjhpmkakoaaGreatDoorPkCardHereditary08
namespace Go.Proofs.YtjikmjhpmkakoaaGreatDoor
open Go.RowKit

set_option maxRecDepth 100000 in
set_option maxHeartbeats 4000000 in
theorem l4Holey_any (cb n c : Nat) (bo : Option Addr) (w : World) (h : CurAt w cb bo n c) :
    Calls Tryz.prog 100 #[.pointer (some ⟨cb, 0, none⟩)] w (RetAG cb bo n c w) := by
  have hcw := h.lt
  go_enter Tryz.func100, Tryz.ntmps100
  go_wp2_with fail
  generalize hW : World.alloc _ _ = W1
  obtain ⟨hB, hs, k0⟩ := alloc1 hW
  have hD := DrewC.refl (h.below hB)
  have hs1 : w.heap.size < W1.heap.size := by omega
  clear hW hs
  have HhB := Lib.hid hB
  clear hB
  have Hk0 := Lib.hid k0
  clear k0
  refine (l1Once_any 3 cb n c bo W1 hD.cur (by omega) (by omega)).mono ?_
  rintro e w1 ⟨b3, rfl, hD1⟩
  replace hD := hD.trans hD1
  clear hD1
  have hend : ∀ (wr : World) (x : Int) (f : List Int) (g cap : Nat), (1 ≤ f.length ∧ f.length ≤ 6) → DrewC cb bo n c W1 wr → w.heap.size < g → RowAt wr g cap f → Hid (RetAG cb bo n c w (.returned (.agg #[.int .i64 x, .slice (some ⟨g, 0, none⟩) f.length cap])) ((wr.setCell ⟨w.heap.size, 0, none⟩ (.int .i64 x)).setCell ⟨w.heap.size, 1, none⟩ (.slice (some ⟨g, 0, none⟩) f.length cap))) := fun wr x f g cap hv hD hg hR => Lib.hid (by
    obtain ⟨h1, h2⟩ := end_graph (N := f.length) (x := x) HhB.out hcw hD hg hR
    exact ⟨x, f, g, cap, hv, rfl, Nat.le_of_lt hg, h1, h2⟩)
  have hblk : ∀ wr, DrewC cb bo n c W1 wr → Blk wr w.heap.size #[.int .i64 0, .slice none 0 0] 26 := fun wr hD => hD.blk Hk0.out (by omega)
  have Hend := Lib.hid hend
  have Hblk := Lib.hid hblk
  clear hend hblk
  cases b3
  · go_wp2_with fail
    refine (l1Below_any 3 cb n c bo w1 hD.cur (by omega) (by omega)).mono ?_
    rintro e w3 ⟨u, hu, rfl, hD1⟩
    replace hD := hD.trans hD1
    clear hD1
    go_wp2_with fail
    have eu : (4 : Int) + (u : Int) = ((u + 4 : Nat) : Int) := by omega
    rw [eu]
    clear eu
    obtain ⟨N, hN⟩ : ∃ N, N = u + 4 := ⟨_, rfl⟩
    have hN1 : 1 ≤ N := by omega
    have hN7 : N ≤ 7 := by omega
    have hN6 : N ≤ 6 := by omega
    rw [← hN]
    clear hN
    have hN := named_cycle N w3 hN1 hN7
    refine hN.mono ?_
    rintro e w4 ⟨f, g, cap, hv, hfl, rfl, hg, hR, hB4⟩
    subst hfl
    have HN6 := Lib.hid hN6
    clear hN6
    have hgw : w.heap.size < g := by have := hD.only.size; omega
    replace hD := hD.below hB4
    clear hN hg hB4
    go_wp2_with fail
    generalize hWb : World.alloc _ _ = Wb
    obtain ⟨hBb, hzb, kb⟩ := alloc1 hWb
    have hg4 : g < w4.heap.size := hR.lt
    have hcb4 : cb < w4.heap.size := hD.cur.lt
    have hw4 := hD.only.size
    replace hD := hD.below hBb
    replace hR := hR.below hBb
    clear hWb hBb hzb
    generalize w4.heap.size = yb at *
    refine (l1Below_any f.length cb n c bo Wb hD.cur hv.pos (by have := hv.le; omega)).mono ?_
    rintro e w5 ⟨a, ha, rfl, hD1⟩
    replace hR := hD1.row hR (by omega)
    replace kb := hD1.blk kb (by omega)
    replace hD := hD.trans hD1
    clear hD1
    have z0 := kb.cell 0
    simp at z0
    go_wp2_with fail
    clear z0
    refine (l1Below_any f.length cb n c bo w5 hD.cur hv.pos (by have := hv.le; omega)).mono ?_
    rintro e w6 ⟨b, hb, rfl, hD1⟩
    replace hR := hD1.row hR (by omega)
    replace kb := hD1.blk kb (by omega)
    replace hD := hD.trans hD1
    clear hD1
    go_wp2_with fail
    refine (l1Once_any 3 cb n c bo w6 hD.cur (by omega) (by omega)).mono ?_
    rintro e w7 ⟨bb, rfl, hD1⟩
    replace hR := hD1.row hR (by omega)
    replace kb := hD1.blk kb (by omega)
    replace hD := hD.trans hD1
    clear hD1
    have k9 := Hblk.out _ hD
    have y0 := k9.cell 0
    have y1 := k9.cell 1
    have y2 := k9.frozen 0
    have y3 := k9.frozen 1
    have y4 := k9.lt
    simp at y0 y1
    have z0 := kb.cell 0
    have z1 := kb.cell 1
    have z4 := kb.lt
    simp at z0 z1
    cases bb
    · have HE := Hend.out _ f.length f g cap ⟨hv.pos, HN6.out⟩ hD (by omega) hR
      clear k9 kb hD hR
      go_wp2_with fail
      refine bodyPost_ret (v := .agg #[.int .i64 f.length, .slice (some ⟨g, 0, none⟩) f.length cap]) (by simp [results, Tryz.results100, go_sem, y0, y1]) rfl ?_
      exact HE.out
    · have hA := specAddEdge_any f.length f a b (some ⟨g, 0, none⟩) cap w7 hR.ints (by have := hv.le; omega) hv.pos
      clear k9
      have HhR := Lib.hid hR
      clear hR
      have Hkb := Lib.hid kb
      clear kb
      have HhD := Lib.hid hD
      clear hD
      go_wp2_with fail
      refine hA.mono ?_
      rintro e w8 ⟨g5, cp5, rfl, hB8, hg5, hR5⟩
      have hw7 := HhD.out.only.size
      have k5 := Hkb.out.below hB8 z4
      have r0 := k5.cell 0
      have r1 := k5.cell 1
      have r2 := k5.frozen 0
      have r3 := k5.frozen 1
      have r4 := k5.lt
      simp at r0 r1
      have hv2 := addV_VG hv f.length a b
      have hl2 := addV_len f.length f a b
      have hD2 := ((HhD.out.below hB8).store (a := ⟨yb, 0, none⟩) hw4 hcb4 (.int .i64 f.length)).store (a := ⟨yb, 1, none⟩) hw4 hcb4 (.slice (some ⟨g5, 0, none⟩) f.length cp5)
      have hR2 : RowAt ((w8.setCell ⟨yb, 0, none⟩ (.int .i64 f.length)).setCell ⟨yb, 1, none⟩ (.slice (some ⟨g5, 0, none⟩) f.length cp5)) g5 cp5 _ := (hR5.otherCell (by simp; omega)).otherCell (by simp; omega)
      have k6 : Blk ((w8.setCell ⟨yb, 0, none⟩ (.int .i64 f.length)).setCell ⟨yb, 1, none⟩ (.slice (some ⟨g5, 0, none⟩) f.length cp5)) yb #[.int .i64 f.length, .slice (some ⟨g5, 0, none⟩) f.length cp5] 26 := by
        have := (k5.store 0 (.int .i64 f.length)).store 1 (.slice (some ⟨g5, 0, none⟩) f.length cp5)
        simpa using this
      have k8 := Hblk.out _ (HhD.out.below hB8)
      have HE := Hend.out _ f.length _ g5 cp5 ⟨hv2.pos, by rw [hl2]; exact HN6.out⟩ hD2 (by omega) hR2
      rw [hl2] at HE
      clear y0 y1 y2 y3 y4 z0 z1 hA HhR hR5 hB8 hg5 k5 hv2 hl2 hD2 hR2
      have y0 := k8.cell 0
      have y1 := k8.cell 1
      have y2 := k8.frozen 0
      have y3 := k8.frozen 1
      have y4 := k8.lt
      simp at y0 y1
      have hne : ¬w.heap.size = yb := by omega
      have hne2 : ¬yb = w.heap.size := by omega
      clear k8 k6 HhD Hkb z4
      generalize addOk f.length f a b = BB at *
      go_wp2_with fail
      refine bodyPost_ret (v := .agg #[.int .i64 f.length, .slice (some ⟨g5, 0, none⟩) f.length cp5]) (by simp [results, Tryz.results100, go_sem, y0, y1]) rfl ?_
      exact HE.out
  · go_wp2_with fail
    refine (l2Any_any cb n c bo w1 hD.cur).mono ?_
    rintro e w2 ⟨x, f, g, cap, hf, rfl, hg, hR, hD1⟩
    have hw1 := hD.only.size
    replace hD := hD.trans hD1
    have k9 := Hblk.out _ hD
    have y0 := k9.cell 0
    have y1 := k9.cell 1
    have y2 := k9.frozen 0
    have y3 := k9.frozen 1
    have y4 := k9.lt
    simp at y0 y1
    have HE := Hend.out _ x f g cap hf hD (by omega) hR
    clear k9 hD hR hD1
    go_wp2_with fail
    refine bodyPost_ret (v := .agg #[.int .i64 x, .slice (some ⟨g, 0, none⟩) f.length cap]) (by simp [results, Tryz.results100, go_sem, y0, y1]) rfl ?_
    exact HE.out






end Go.Proofs.YtjikmjhpmkakoaaGreatDoor

namespace Go.Proofs.YtjikmjhpmkakoaaGreatDoor
open Go.RowKit

theorem info_row : (Tryz.prog.info? 24).map (fun i => (i.zero, i.size, i.bytes)) = some (some (.slice none 0 0), 1, 24) := by kernel_rfl

/-- The slice value v owns the slices xs in a row of the call's own, from block 'base' on. -/
def OwnV (w : World) (base : Nat) (v : Value) (xs : List Value) : Prop := w.ownsRow base 24 1 v xs.length xs

theorem OwnV.cells {w : World} {base n cap : Nat} {ao : Option Addr} {xs : List Value} (h : OwnV w base (.slice ao n cap) xs) (h0 : 0 < xs.length) : ∃ g, ao = some ⟨g, 0, none⟩ ∧ base ≤ g ∧ g < w.heap.size ∧ ∀ k u, xs[k]? = some u → w.cell? ⟨g, k, none⟩ = some u := by
  obtain ⟨hl, h1 | ⟨g, cp, cur, hv, hg, hb, hn, hm, hsz, ht⟩⟩ := h
  · omega
  · simp only [Value.slice.injEq] at hv
    obtain ⟨rfl, -, -⟩ := hv
    refine ⟨g, rfl, hg, (Array.getElem?_eq_some_iff.1 hb).1, fun k u hk => ?_⟩
    obtain ⟨hkl, -⟩ := List.getElem?_eq_some_iff.1 hk
    have : cur[k]? = some u := by
      have e : (cur.toList.take (xs.length * 1))[k]? = xs[k]? := by rw [ht]
      rw [List.getElem?_take, if_pos (by omega), Array.getElem?_toList] at e
      rw [e]; exact hk
    simp only [World.cell?, hb]
    simpa using this

theorem OwnV.form {w : World} {base : Nat} {v : Value} {xs : List Value} (h : OwnV w base v xs) : ∃ ao cap, v = .slice ao xs.length cap := by
  obtain ⟨hl, ⟨h1, h2⟩ | ⟨g, cp, cur, hv, -⟩⟩ := h
  · exact ⟨none, 0, by rw [h1, h2]⟩
  · exact ⟨_, _, hv⟩

theorem OwnV.alloc {w : World} {base : Nat} {v : Value} {xs : List Value} (h : OwnV w base v xs) (o : Obj) : OwnV (w.alloc o) base v xs := World.ownsRow.alloc h o

theorem OwnV.below {w w' : World} {base : Nat} {v : Value} {xs : List Value} (h : OwnV w base v xs) (hb : Below w.heap.size w w') : OwnV w' base v xs := by
  obtain ⟨h0, h1 | ⟨g, cap, cur, hv, hg, hh, r⟩⟩ := h
  · exact ⟨h0, .inl h1⟩
  · exact ⟨h0, .inr ⟨g, cap, cur, hv, hg, by rw [hb.block g (Array.getElem?_eq_some_iff.1 hh).1]; exact hh, r⟩⟩

/-- '[][]int{}' -/
theorem OwnV.empty (w : World) : OwnV (w.alloc (.cells #[] 24)) w.heap.size (.slice (some ⟨w.heap.size, 0, none⟩) 0 0) [] :=
  ⟨by simp, .inr ⟨w.heap.size, 0, #[], rfl, Nat.le_refl _, by show (w.heap.push _)[w.heap.size]? = _; simp, Nat.le_refl _, by simp, by simp, by simp⟩⟩

theorem OwnV.own {w : World} {base : Nat} {v : Value} {xs : List Value} (h : OwnV w base v xs) : ∀ k, v.ownBlock = some k → base ≤ k := by
  intro k hk
  obtain ⟨hl, ⟨h1, h2⟩ | ⟨g, cp, cur, hv, hg, -⟩⟩ := h
  · rw [h1] at hk; cases hk
  · rw [hv] at hk
    simp only [Value.ownBlock, Option.some.injEq] at hk
    omega

/-- 'out = append(out, y)', out the call's own, y a slice. -/
theorem wpList_append_row {ops : Array Oper} {rest : List Oper} {o : Oper} {a : Act} {Q : Exit → Act → World → Prop} {w : World} (hgd : o.guard = none) (s x : Operand)
    (ho : o.op = .call { callee := .builtin .append, args := #[s, x], argTypes := #[133, 133] })
    (base : Nat) (v : Value) (xs : List Value) (y : Value) (hy : y.oneCell' = true) (hs : a.eval s = v) (hown : OwnV w base v xs) (hx : a.eval x = .slice (some ⟨w.heap.size, 0, none⟩) 1 1) (hbase : base ≤ w.heap.size) (hlen : xs.length ≤ 1048576)
    (h : ∀ ao cap w', OwnV w' base (.slice ao (xs.length + 1) cap) (xs ++ [y]) → Below base w w' → (w.alloc (.cells #[y] 24)).grownBy w' v.ownBlock → wpList Tryz.prog ops Q rest (a.put o.dst (.slice ao (xs.length + 1) cap)) w') :
    wpList Tryz.prog ops Q (o :: rest) a (w.alloc (.cells #[y] 24)) := by
  obtain ⟨i0, hi, hz0, hz1, hz2⟩ := info_parts info_row
  refine wpList_append_own (w.alloc (.cells #[y] 24)) hgd s x 133 ho base 24 i0 (.slice none 0 0) 1 24 Tryz.underlying133 hi hz0 hz1 hz2 rfl (by decide) v xs.length xs hs (hown.alloc _)
    ⟨w.heap.size, 0, none⟩ 1 1 [y] hx rfl ?_ ?_ (by unfold maxLen; omega) (by omega) (by simp; omega) ?_
  · intro j u hj
    match j, hj with
    | 0, hj => simp at hj; subst hj; simp [Addr.add]
  · intro u hu; simp at hu; subst hu; exact hy
  · intro v' w' h1 h2 _
    have h3 : OwnV w' base v' (xs ++ [y]) := by unfold OwnV; simpa using h1
    obtain ⟨ao, cap, rfl⟩ := h3.form
    have e : (xs ++ [y]).length = xs.length + 1 := by simp
    rw [e] at h3 ⊢
    refine h ao cap w' h3 ?_ ?_
    · have hb : Below base w (w.alloc (.cells #[y] 24)) := (Below.refl _ _).alloc hbase _
      exact hb.grown h2 (by simp; omega) hown.own
    · exact h2

end Go.Proofs.YtjikmjhpmkakoaaGreatDoor

namespace Go.Proofs.YtjikmjhpmkakoaaGreatDoor
open Go.RowKit

/-- Vertex v of S lacks a neighbour in S. -/
def cliqueBad (rs : List Int) (S v : Nat) : Bool := S.testBit v && decide (¬ gn rs v &&& S = S - 2 ^ v)
def cliqueN (rs : List Int) (S : Nat) : Bool := decide (∀ v, v < rs.length → cliqueBad rs S v = false)
def cliqueB (n : Int) (rs : List Int) (s : Int) : Bool := isSetB n rs s && cliqueN rs s.toNat
theorem cliqueB_no {n : Int} {rs : List Int} {s : Int} (h : isSetB n rs s = false) : cliqueB n rs s = false := by unfold cliqueB; rw [h]; rfl
theorem cliqueN_bad {rs : List Int} {S v : Nat} (hv : v < rs.length) (h : cliqueBad rs S v = true) : cliqueN rs S = false := by
  unfold cliqueN; rw [decide_eq_false_iff_not]; intro a; rw [a v hv] at h; cases h
theorem cliqueN_ok {rs : List Int} {S : Nat} (h : ∀ v, v < rs.length → cliqueBad rs S v = false) : cliqueN rs S = true := by unfold cliqueN; rw [decide_eq_true_eq]; exact h
theorem cliqueB_nat {n : Int} {rs : List Int} {S : Nat} (h : isSetB n rs S = true) : cliqueB n rs S = cliqueN rs S := by unfold cliqueB; rw [h, Bool.true_and, Int.toNat_natCast]

set_option maxHeartbeats 1000000 in
theorem specIsClique_any (n : Int) (rs : List Int) (s : Int) (ro : Option Addr) (rc : Nat) (w : World) (hr : IntsAt w ro rs) (hrl : rs.length ≤ 1048576) :
    Calls Tryz.prog 134 #[.agg #[.int .i64 n, .slice ro rs.length rc], .int .i64 s] w fun e w' => e = .returned (.bool (cliqueB n rs s)) ∧ Below w.heap.size w w' := by
  go_enter Tryz.func134, Tryz.ntmps134
  go_wp2_with fail
  generalize hW : w.alloc _ = W1
  obtain ⟨hB, -, k0⟩ := alloc1 hW
  replace hr := hr.below hB
  have hb0 := k0.lt
  have hc0 := k0.cell 0
  have hc1 := k0.cell 1
  simp at hc0 hc1
  clear hW k0
  have HhB := Lib.hid hB
  clear hB
  obtain ⟨m, hm0⟩ : ∃ m : Later W1, m.w = W1 := ⟨Later.refl _, rfl⟩
  refine (fun h => hm0 ▸ h) ?_
  clear hm0
  cases hv : isSetB n rs s
  · have HE := Lib.hid (cliqueB_no hv)
    go_wp2_with (first | (go_at_call 103; refine (Calls.later m (specIsSet_any _ _ _ _ _ _ (hr.later m) hrl)).mono ?_; rintro e w' ⟨rfl, m, rfl⟩))
    go_ret
    exact ⟨retB (by rw [HE.out]), below_later HhB.out m⟩
  · obtain ⟨rfl, g, S, rfl, hS⟩ := isSetB_true hv
    have HE := Lib.hid (cliqueB_nat hv)
    have hg1 := g.pos
    have hg2 := g.le
    have hp := g.pow.1
    go_wp2_with (first | (go_at_call 103; refine (Calls.later m (specIsSet_any _ _ _ _ _ _ (hr.later m) hrl)).mono ?_; rintro e w' ⟨rfl, m, rfl⟩))
    go_loopw [5] (fun i wr => (∃ m : Later W1, wr = m.w) ∧ ∃ k : Nat, k ≤ rs.length ∧ i = .int .i64 k ∧ ∀ v, v < k → cliqueBad rs S v = false) (fun i _ => rs.length - (intOf i).toNat)
    case atStart => exact ⟨⟨m, rfl⟩, 0, by omega, rfl, fun v h => by omega⟩
    case round =>
      obtain ⟨⟨m, rfl⟩, k, hk, rfl, hP⟩ := hrel
      have HhP := Lib.hid hP
      clear hP
      by_cases hlt : k < rs.length
      · obtain ⟨rb, rofs, rfl, hrb, hrc⟩ := hr.graph g
        have hl := g.lt k hlt
        have q1 : pwN k = ((2 ^ k : Nat) : Int) := pwN_small _ (by omega)
        have q2 : bits .and .i64 (gn rs k : Int) (S : Int) = ((gn rs k &&& S : Nat) : Int) := bits_and_nat _ _ (by omega) (by omega)
        have q3 : 2 ^ k ≤ 2 ^ rs.length := Nat.pow_le_pow_right (by decide) (by omega)
        have q4 : gn rs k &&& S ≤ S := Nat.and_le_right
        go_wp2_with fail
        cases hb : S.testBit k
        · have hb' : hasN (S : Int) k = false := by rw [hasN_nat]; exact hb
          have HQ : Hid (cliqueBad rs S k = false) := by show cliqueBad rs S k = false; unfold cliqueBad; rw [hb]; rfl
          clear hb q1 q2 q4
          refine wp_region_later m rfl (by kernel_rfl) (by kernel_rfl) ?_
          repeat (go_big_quiet_step (fail))
          refine wpQuiet_nil ?_
          rintro _ ⟨m, rfl⟩
          go_wp2_with fail
          go_roundw
          case rel => exact ⟨⟨m, rfl⟩, k + 1, by omega, by go_num, all_succ HhP.out HQ.out⟩
          case measure => simp [intOf]; omega
        · have hb' : hasN (S : Int) k = true := by rw [hasN_nat]; exact hb
          have hle := pow_le_of_testBit hb
          have HQ : Hid (∀ b, (((gn rs k &&& S : Nat) : Int) != (S : Int) - ((2 ^ k : Nat) : Int)) = b → cliqueBad rs S k = b) := fun b h => by
            unfold cliqueBad; rw [hb, Bool.true_and, ← h, Bool.eq_iff_iff, decide_eq_true_eq, bne_iff_ne]
            constructor <;> intro h1 h2 <;> apply h1 <;> omega
          clear hb
          generalize gn rs k &&& S = A at *
          generalize 2 ^ k = C at *
          cases hc : ((A : Int) != (S : Int) - (C : Int))
          all_goals
            refine wp_region_later m rfl (by kernel_rfl) (by kernel_rfl) ?_
            repeat (go_big_quiet_step (fail))
            refine wpQuiet_nil ?_
            rintro _ ⟨m, rfl⟩
            go_wp2_with fail
          · go_roundw
            case rel => exact ⟨⟨m, rfl⟩, k + 1, by omega, by go_num, all_succ HhP.out (HQ.out _ hc)⟩
            case measure => simp [intOf]; omega
          · go_ret
            exact ⟨retB (by rw [HE.out, cliqueN_bad hlt (HQ.out _ hc)]), below_later HhB.out m⟩
      · go_wp2_with fail
        go_ret
        exact ⟨retB (by rw [HE.out, cliqueN_ok (fun v h => HhP.out v (by omega))]), below_later HhB.out m⟩

set_option maxHeartbeats 1000000 in
theorem implisClique_any (rs : List Int) (S : Nat) (ro : Option Addr) (rc : Nat) (w : World) (hr : IntsAt w ro rs) (g : VG rs) (hS : S < 2 ^ rs.length) :
    Calls Tryz.prog 165 #[.agg #[.int .i64 rs.length, .slice ro rs.length rc], .int .i64 S] w fun e w' => e = .returned (.bool (cliqueN rs S)) ∧ Below w.heap.size w w' := by
  have hg1 := g.pos
  have hg2 := g.le
  have hp := g.pow.1
  have hc7 := cnt_le S
  go_enter Tryz.func165, Tryz.ntmps165
  go_wp2_with fail
  generalize hW : w.alloc _ = W1
  obtain ⟨hB, -, k0⟩ := alloc1 hW
  replace hr := hr.below hB
  have hb0 := k0.lt
  have hc0 := k0.cell 0
  have hc1 := k0.cell 1
  simp at hc0 hc1
  clear hW k0
  have HhB := Lib.hid hB
  clear hB
  obtain ⟨m, hm0⟩ : ∃ m : Later W1, m.w = W1 := ⟨Later.refl _, rfl⟩
  refine (fun h => hm0 ▸ h) ?_
  clear hm0
  refine (implListN_any _ (by omega) _).mono ?_
  rintro e w2 ⟨lo, lc, rfl, hB2, hL⟩
  obtain ⟨m, rfl⟩ : ∃ m2 : Later W1, m2.w = w2 := ⟨m.on hB2, rfl⟩
  clear hB2 hc0
  replace hr := hr.later m
  replace hc1 : m.w.cell? _ = _ := (m.cell _ _ hb0).trans hc1
  replace hb0 := Nat.lt_of_lt_of_le hb0 m.size
  replace HhB := Lib.hid (below_later HhB.out m)
  generalize m.w = W2 at *
  clear m
  obtain ⟨m, hm0⟩ : ∃ m : Later W2, m.w = W2 := ⟨Later.refl _, rfl⟩
  refine (fun h => hm0 ▸ h) ?_
  clear hm0
  go_wp2_with fail
  go_loopw [10] (fun i wr => (∃ m : Later W2, wr = m.w) ∧ ∃ k : Nat, k ≤ cnt S ∧ i = .int .i64 k ∧ ∀ j, j < k → cliqueBad rs S (eln (els S) j) = false) (fun i _ => cnt S - (intOf i).toNat)
  case atStart => exact ⟨⟨m, rfl⟩, 0, by omega, rfl, fun j h => by omega⟩
  case round =>
    obtain ⟨⟨m, rfl⟩, k, hk, rfl, hP⟩ := hrel
    have HhP := Lib.hid hP
    clear hP
    by_cases hlt : k < cnt S
    · obtain ⟨rb, rofs, rfl, hrb, hrc⟩ := hr.graph g
      obtain ⟨lb, lofs, rfl, hlb, hlc⟩ := hL (by unfold cnt at hlt; omega)
      obtain ⟨q2, q3⟩ := els_at hS hg2 hlt
      have hv := hlc k hlt
      have hle := pow_le_of_testBit q3
      have hl := g.lt _ q2
      have HQ : Hid (∀ b, (((nDiff S (gn rs (eln (els S) k)) : Nat) : Int) != ((2 ^ eln (els S) k : Nat) : Int)) = b → cliqueBad rs S (eln (els S) k) = b) := fun b h => by
        have e := nDiff_add (a := S) (b := gn rs (eln (els S) k)) (by omega)
        unfold cliqueBad; rw [q3, Bool.true_and, ← h, Bool.eq_iff_iff, decide_eq_true_eq, bne_iff_ne]
        constructor <;> intro h1 h2 <;> apply h1 <;> omega
      generalize hev : eln (els S) k = v at *
      have Hhev := Lib.hid hev
      clear hev
      have p1 : pwN v = ((2 ^ v : Nat) : Int) := pwN_small _ (by omega)
      have p2 : bits .andNot .i64 (S : Int) (gn rs v : Int) = ((nDiff S (gn rs v) : Nat) : Int) := bits_andNot_nat _ _ (by omega)
      clear hlc q3
      generalize nDiff S (gn rs v) = A at *
      generalize 2 ^ v = C at *
      go_wp2_with fail
      cases hc : ((A : Int) != (C : Int))
      all_goals
        refine wp_region_later m rfl (by kernel_rfl) (by kernel_rfl) ?_
        repeat (go_big_quiet_step (fail))
        refine wpQuiet_nil ?_
        rintro _ ⟨m, rfl⟩
        go_wp2_with fail
      · go_roundw
        case rel => exact ⟨⟨m, rfl⟩, k + 1, by omega, by go_num, all_succ HhP.out (by rw [Hhev.out]; exact HQ.out _ hc)⟩
        case measure => simp [intOf]; omega
      · go_ret
        exact ⟨retB (by rw [cliqueN_bad q2 (HQ.out _ hc)]), below_later HhB.out m⟩
    · go_wp2_with fail
      go_ret
      refine ⟨retB ?_, below_later HhB.out m⟩
      rw [cliqueN_ok]
      intro v hv
      cases hb : S.testBit v with
      | false => unfold cliqueBad; rw [hb]; rfl
      | true =>
        obtain ⟨j, hj, he⟩ := List.mem_iff_getElem.1 ((mem_els hS hg2).2 hb)
        have := HhP.out j (by unfold cnt at hlt; omega)
        have e2 : eln (els S) j = v := by simp [eln, hj, he]
        rwa [e2] at this

set_option maxHeartbeats 1000000 in
theorem implIsClique_any (n : Int) (rs : List Int) (s : Int) (ro : Option Addr) (rc : Nat) (w : World) (hr : IntsAt w ro rs) (hrl : rs.length ≤ 1048576) :
    Calls Tryz.prog 150 #[.agg #[.int .i64 n, .slice ro rs.length rc], .int .i64 s] w fun e w' => e = .returned (.bool (cliqueB n rs s)) ∧ Below w.heap.size w w' := by
  go_enter Tryz.func150, Tryz.ntmps150
  go_wp2_with fail
  generalize hW : w.alloc _ = W1
  obtain ⟨hB, -, k0⟩ := alloc1 hW
  replace hr := hr.below hB
  have hb0 := k0.lt
  have hc0 := k0.cell 0
  have hc1 := k0.cell 1
  simp at hc0 hc1
  clear hW k0
  have HhB := Lib.hid hB
  clear hB
  obtain ⟨m, hm0⟩ : ∃ m : Later W1, m.w = W1 := ⟨Later.refl _, rfl⟩
  refine (fun h => hm0 ▸ h) ?_
  clear hm0
  cases hv : isSetB n rs s
  · have HE := Lib.hid (cliqueB_no hv)
    go_wp2_with (first | (go_at_call 105; refine (Calls.later m (implIsSet_any _ _ _ _ _ _ (hr.later m) hrl)).mono ?_; rintro e w' ⟨rfl, m, rfl⟩))
    go_ret
    exact ⟨retB (by rw [HE.out]), below_later HhB.out m⟩
  · obtain ⟨rfl, g, S, rfl, hS⟩ := isSetB_true hv
    have HE := Lib.hid (cliqueB_nat hv)
    go_wp2_with (first | (go_at_call 105; refine (Calls.later m (implIsSet_any _ _ _ _ _ _ (hr.later m) hrl)).mono ?_; rintro e w' ⟨rfl, m, rfl⟩) | (go_at_call 165; refine (Calls.later m (implisClique_any _ _ _ _ _ (hr.later m) g hS)).mono ?_; rintro e w' ⟨rfl, m, rfl⟩))
    go_ret
    exact ⟨retB (by rw [HE.out]), below_later HhB.out m⟩

/-! ### IsCliqueCover -/
/-- The first k sets together. -/
def accTo (l : List Int) : Nat → Nat
  | 0 => 0
  | k + 1 => accTo l k ||| (gi l k).toNat
def coverAt (n : Int) (rs l : List Int) (j : Nat) : Bool := cliqueB n rs (gi l j) && decide (accTo l j &&& (gi l j).toNat = 0)
def coverB (n : Int) (rs l : List Int) : Bool := isGraphB n rs && decide ((∀ j, j < l.length → coverAt n rs l j = true) ∧ accTo l l.length = 2 ^ rs.length - 1)
theorem coverB_no {n : Int} {rs l : List Int} (h : isGraphB n rs = false) : coverB n rs l = false := by unfold coverB; rw [h]; rfl
theorem coverB_bad {n : Int} {rs l : List Int} {j : Nat} (hj : j < l.length) (h : coverAt n rs l j = false) : coverB n rs l = false := by
  unfold coverB; rw [decide_eq_false, Bool.and_false]; rintro ⟨a, _⟩; rw [a j hj] at h; cases h
theorem coverB_end {n : Int} {rs l : List Int} (hg : isGraphB n rs = true) (h : ∀ j, j < l.length → coverAt n rs l j = true) : coverB n rs l = (((accTo l l.length : Nat) : Int) == ((2 ^ rs.length - 1 : Nat) : Int)) := by
  unfold coverB; rw [hg, Bool.true_and, Bool.eq_iff_iff, decide_eq_true_eq, beq_iff_eq]
  exact ⟨fun ⟨_, b⟩ => by rw [b], fun b => ⟨h, Int.ofNat_inj.1 b⟩⟩
theorem cliqueB_graph {n : Int} {rs : List Int} {s : Int} (h : cliqueB n rs s = true) : isSetB n rs s = true := by unfold cliqueB at h; simp only [Bool.and_eq_true] at h; exact h.1
theorem cliqueB_inv {n : Int} {rs : List Int} {s : Int} (h : isGraphB n rs = false) : cliqueB n rs s = false := by unfold cliqueB isSetB; rw [h]; rfl
theorem accTo_lt {rs l : List Int} {k : Nat} (h : ∀ j, j < k → coverAt rs.length rs l j = true) : accTo l k < 2 ^ rs.length := by
  induction k with
  | zero => exact Nat.two_pow_pos _
  | succ k ih =>
    have := h k (by omega)
    unfold coverAt at this
    simp only [Bool.and_eq_true] at this
    obtain ⟨_, _, S, h1, h2⟩ := isSetB_true (cliqueB_graph this.1)
    unfold accTo
    exact Nat.or_lt_two_pow (ih fun j hj => h j (by omega)) (by rw [h1]; simpa using h2)

/-- What the walks want of set k, where it is a clique. -/
theorem cover_facts {rs l : List Int} {k : Nat} (g : VG rs) (h : ∀ j, j < k → coverAt rs.length rs l j = true) (hc : cliqueB rs.length rs (gi l k) = true) :
    bits .and .i64 (accTo l k : Int) (gi l k) = ((accTo l k &&& (gi l k).toNat : Nat) : Int) ∧ bits .or .i64 (accTo l k : Int) (gi l k) = ((accTo l (k + 1) : Nat) : Int) := by
  obtain ⟨_, _, S, h1, h2⟩ := isSetB_true (cliqueB_graph hc)
  have h3 := accTo_lt h
  have h4 := g.pow.1
  rw [h1, Int.toNat_natCast]
  exact ⟨bits_and_nat _ _ (by omega) (by omega), by rw [bits_or_nat _ _ (by omega) (by omega)]; show _ = ((accTo l k ||| (gi l k).toNat : Nat) : Int); rw [h1, Int.toNat_natCast]⟩



end Go.Proofs.YtjikmjhpmkakoaaGreatDoor

namespace Go.Proofs.YtjikmjhpmkakoaaGreatDoor
open Go.RowKit

/-! ### IsOrder -/
def orderB (n : Int) (rs l : List Int) : Bool := vertsB n rs l && ((l.length : Int) == n)
theorem orderB_no {n : Int} {rs l : List Int} (h : vertsB n rs l = false) : orderB n rs l = false := by unfold orderB; rw [h]; rfl
theorem orderB_of {n : Int} {rs l : List Int} (h : vertsB n rs l = true) : orderB n rs l = ((l.length : Int) == n) := by unfold orderB; rw [h]; rfl
theorem orderB_true {n : Int} {rs l : List Int} (h : orderB n rs l = true) : vertsB n rs l = true ∧ n = rs.length ∧ VG rs ∧ l.length = rs.length := by
  unfold orderB at h
  simp only [Bool.and_eq_true, beq_iff_eq] at h
  obtain ⟨hn, g⟩ := VG.of (vertsB_true.1 h.1).1
  exact ⟨h.1, hn, g, by omega⟩



/-- Vertex k of a list of different vertices. -/
theorem vert_new {n : Int} {rs l : List Int} (h : vertsB n rs l = true) {k : Nat} (hk : k < l.length) :
    ∃ v : Nat, gi l k = v ∧ v < rs.length ∧ setTo l (k + 1) = setTo l k + 2 ^ v ∧ setTo l (k + 1) = setTo l k ||| 2 ^ v := by
  have hv := h
  unfold vertsB at hv
  simp only [Bool.and_eq_true] at hv
  obtain ⟨hg, hs, -⟩ := hv
  have hd : ∀ j, j < l.length → diffAt l j = true := by unfold setOk at hs; simpa using hs
  obtain ⟨h1, h2⟩ := ((vertsB_true.1 h).2 k hk).1
  refine ⟨(gi l k).toNat, by omega, by omega, rfl, ?_⟩
  apply Nat.eq_of_testBit_eq; intro i
  rw [Bool.eq_iff_iff, (setTo_bits (fun j hj => hd j (by omega))).2, Nat.testBit_or, Bool.or_eq_true, (setTo_bits (fun j hj => hd j (by omega))).2, Nat.testBit_two_pow, decide_eq_true_eq]
  constructor
  · rintro ⟨j, hj, e⟩
    rcases Nat.lt_succ_iff_lt_or_eq.1 hj with hj | rfl
    · exact .inl ⟨j, hj, e⟩
    · exact .inr (by omega)
  · rintro (⟨j, hj, e⟩ | e)
    · exact ⟨j, by omega, e⟩
    · exact ⟨k, by omega, by omega⟩
theorem setTo_lt {n : Int} {rs l : List Int} (h : vertsB n rs l = true) : ∀ k, k ≤ l.length → setTo l k < 2 ^ rs.length
  | 0, _ => Nat.two_pow_pos _
  | k + 1, hk => by
    obtain ⟨v, -, hv, -, e⟩ := vert_new h (k := k) (by omega)
    rw [e]
    exact Nat.or_lt_two_pow (setTo_lt h k (by omega)) (Nat.pow_lt_pow_right (by decide) hv)

/-! ### The front of a set: its vertices with an edge out of it -/
def outOf (rs : List Int) (S v : Nat) : Bool := decide (gn rs v &&& S ≠ gn rs v)
def frontTo (rs : List Int) (S k : Nat) : Nat := (elsTo S k).countP (outOf rs S)
def frontN (rs : List Int) (S : Nat) : Nat := (els S).countP (outOf rs S)
theorem frontTo_no {rs : List Int} {S k : Nat} (h : S.testBit k = false) : frontTo rs S (k + 1) = frontTo rs S k := by unfold frontTo; rw [elsTo_no h]
theorem frontTo_yes {rs : List Int} {S k : Nat} (h : S.testBit k = true) (b : Bool) (hb : outOf rs S k = b) : frontTo rs S (k + 1) = frontTo rs S k + (if b then 1 else 0) := by
  unfold frontTo; rw [elsTo_yes h, List.countP_append, List.countP_singleton, hb]
theorem frontTo_le (rs : List Int) (S k : Nat) : frontTo rs S k ≤ k := by
  unfold frontTo; exact Nat.le_trans List.countP_le_length (Nat.le_trans (List.length_filter_le _ _) (by simp))


/-! ### CutOf -/
def cutTo (rs l : List Int) : Nat → Nat
  | 0 => 0
  | k + 1 => if cutTo rs l k < frontN rs (setTo l (k + 1)) then frontN rs (setTo l (k + 1)) else cutTo rs l k
def cutV (n : Int) (rs l : List Int) : Int := if orderB n rs l = true then cutTo rs l l.length else -1
theorem cutV_no {n : Int} {rs l : List Int} (h : orderB n rs l = false) : cutV n rs l = -1 := by unfold cutV; rw [h]; rfl
theorem cutV_of {n : Int} {rs l : List Int} (h : orderB n rs l = true) : cutV n rs l = cutTo rs l l.length := by unfold cutV; rw [if_pos h]
theorem frontN_le (rs : List Int) (S : Nat) : frontN rs S ≤ 7 := Nat.le_trans List.countP_le_length (els_len S)
theorem cutTo_le (rs l : List Int) (k : Nat) : cutTo rs l k ≤ 7 := by
  induction k with
  | zero => simp [cutTo]
  | succ k ih => unfold cutTo; have := frontN_le rs (setTo l (k + 1)); split <;> omega
theorem cutTo_more {rs l : List Int} {k : Nat} (h : cutTo rs l k < frontN rs (setTo l (k + 1))) : cutTo rs l (k + 1) = frontN rs (setTo l (k + 1)) := by rw [show cutTo rs l (k + 1) = if cutTo rs l k < frontN rs (setTo l (k + 1)) then frontN rs (setTo l (k + 1)) else cutTo rs l k from rfl, if_pos h]
theorem cutTo_same {rs l : List Int} {k : Nat} (h : ¬cutTo rs l k < frontN rs (setTo l (k + 1))) : cutTo rs l (k + 1) = cutTo rs l k := by rw [show cutTo rs l (k + 1) = if cutTo rs l k < frontN rs (setTo l (k + 1)) then frontN rs (setTo l (k + 1)) else cutTo rs l k from rfl, if_neg h]


theorem take_len {l : List Nat} {k : Nat} (h : k = l.length) : l.take k = l := by rw [h, List.take_length]


end Go.Proofs.YtjikmjhpmkakoaaGreatDoor
