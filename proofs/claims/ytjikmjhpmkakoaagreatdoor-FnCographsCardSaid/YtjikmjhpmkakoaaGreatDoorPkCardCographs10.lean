/-
  What a drawing leaves as it was. No conditions.
  A law of regions that draw their order: an operation that only reads may be taken first if the operations that write what it reads wait for it. No conditions.
  The drawing of graphs: l2Draw, l2Any; l3Set, l3Both. For texts of at most 2^20 bytes.
  The drawing of a graph and a set: l3Set, l3Both, DrawIsDominating, DrawIsPacking. For texts of at most 2^20 bytes.
-/
import Derived.Test.YtjikmjhpmkakoaaGreatDoorPkCardCographs08
import Derived.Test.YtjikmjhpmkakoaaGreatDoorPkCardCographs04
import Derived.Test.YtjikmjhpmkakoaaGreatDoorPkCardCographs01
import Derived.Deep.RegionHeld3
import Derived.StillTail
import Derived.Test.YtjikmjhpmkakoaaGreatDoorPkCardCographs09
namespace Go.Proofs.YtjikmjhpmkakoaaGreatDoor
open Go.RowKit

theorem DrewC.below {cb n c : Nat} {bo : Option Addr} {w w1 w2 : World} (h : DrewC cb bo n c w w1) (hb : Below w1.heap.size w1 w2) : DrewC cb bo n c w w2 := ⟨h.only.more hb h.only.size, h.cur.below hb⟩
theorem DrewC.refl {cb n c : Nat} {bo : Option Addr} {w : World} (h : CurAt w cb bo n c) : DrewC cb bo n c w w := ⟨Only.refl _ _ _, h⟩
theorem DrewC.front {cb n c : Nat} {bo : Option Addr} {w w1 w2 : World} (h : DrewC cb bo n c w1 w2) (hb : Below w.heap.size w w1) : DrewC cb bo n c w w2 := ⟨(Only.of hb).trans (h.only.mono hb.size fun _ _ e => e), h.cur⟩
theorem DrewC.store {cb n c : Nat} {bo : Option Addr} {w w1 : World} (h : DrewC cb bo n c w w1) {a : Addr} (ha : w.heap.size ≤ a.block) (hc : cb < a.block) (u : Value) : DrewC cb bo n c w (w1.setCell a u) :=
  ⟨h.only.setCell (.inr ha) u, h.cur.only (X := fun b => b = a.block) ((Only.refl (fun b => b = a.block) _ _).setCell (p := a) (.inl rfl) u) fun b hb e => by have e2 : b = a.block := e; omega⟩
theorem DrewC.row {cb n c g cap : Nat} {bo : Option Addr} {w w1 : World} {xs : List Int} (h : DrewC cb bo n c w w1) (hR : RowAt w g cap xs) (hg : cb ≠ g) : RowAt w1 g cap xs := hR.onlyB h.only fun e => hg e.symm
theorem DrewC.blk {cb n c b : Nat} {bo : Option Addr} {w w1 : World} {cs : Array Value} {T : TypeId} (h : DrewC cb bo n c w w1) (hb : Blk w b cs T) (hg : cb ≠ b) : Blk w1 b cs T := h.only.blk hb hb.lt fun e => hg e.symm

end Go.Proofs.YtjikmjhpmkakoaaGreatDoor

namespace Go.Proofs.YtjikmjhpmkakoaaGreatDoor
open Go.RowKit

section
variable {P : Program} {ops : Array Oper} {Q : Exit → Act → World → Prop} {md : Region.Mode} {T S : World → Prop} {B : List Nat}

/-- None of B has come up. -/
def cleanB (B : List Nat) (L : Array Bool) : Bool := B.all fun b => !L.getD b false
/-- The world meets T, and S as long as none of B has come up. -/
def meetB (T S : World → Prop) (B : List Nat) (L : Array Bool) (w : World) : Prop := T w ∧ (cleanB B L = true → S w)
theorem meetB.late {L : Array Bool} {w : World} (hT : T w) (h : cleanB B L = false) : meetB T S B L w := ⟨hT, fun e => by rw [h] at e; cases e⟩
theorem meetB.both {L : Array Bool} {w : World} (hT : T w) (hS : S w) : meetB T S B L w := ⟨hT, fun _ => hS⟩
theorem cleanB_back {i : Nat} {L : Array Bool} (h : cleanB B (L.setIfInBounds i true) = true) : cleanB B L = true := by
  unfold cleanB at *
  rw [List.all_eq_true] at *
  intro b hb
  have h1 := h b hb
  cases e : L.getD b false
  · rfl
  · rw [getD_set_true e] at h1; cases h1
theorem cleanB_more {i : Nat} {L : Array Bool} (hi : i ∉ B) (h : cleanB B L = true) : cleanB B (L.setIfInBounds i true) = true := by
  unfold cleanB at *
  rw [List.all_eq_true] at *
  intro b hb
  rw [getD_set_ne false (fun e => hi (by rw [e]; exact hb))]
  exact h b hb

def wpAnyB (P : Program) (md : Region.Mode) (ops : Array Oper) (Q : Exit → Act → World → Prop) (T S : World → Prop) (B : List Nat) : Nat → Array Bool → Act → World → Prop
  | 0, L, a, w => Region.ready md ops L = [] ∧ Q .normal a w
  | f + 1, L, a, w => (Region.ready md ops L = [] → Q .normal a w) ∧
    ∀ i ∈ Region.ready md ops L, wpOp P ops Q i (fun a' w' => meetB T S B (L.setIfInBounds i true) w' ∧ wpAnyB P md ops Q T S B f (L.setIfInBounds i true) a' w') a w
theorem wpAny_of_B : ∀ (f : Nat) (L : Array Bool) (a : Act) (w : World), wpAnyB P md ops Q T S B f L a w → wpAny P md ops Q f L a w
  | 0, _, _, _, h => h
  | f + 1, _, _, _, h => ⟨h.1, fun i hi => wpOp_mono (fun _ _ h' => wpAny_of_B f _ _ _ h'.2) (h.2 i hi)⟩

theorem wpAnyB_first {i : Nat} {oi : Oper} {v : Value} (late : Bool) (hi : ops[i]? = some oi) (hsel : ∀ (j : Nat) (o : Oper) cs b, ops[j]? = some o → o.op ≠ .select cs b)
    (hQ : ∀ c a w, Q (.panic c) (a.put oi.dst v) w → Q (.panic c) a w) (hiB : i ∉ B) (hB : late = true → ∀ j ∈ B, Region.waitsFor md ops j i = true) :
    ∀ (f : Nat) (L : Array Bool) (a : Act) (w : World),
      (∀ j oj, ops[j]? = some oj → j ≠ i → L.getD j true = false → (∀ e ∈ oj.after, Region.binds md e = true → e.on ≠ i) → oi.apart ops oj = true) →
      i ∈ Region.ready md ops L → (late = true → cleanB B L = true) → YieldsIf P ops (fun w => T w ∧ (late = true → S w)) oi v a → meetB T S B L w →
      wpAnyB P md ops Q T S B f (L.setIfInBounds i true) (a.put oi.dst v) w → wpAnyB P md ops Q T S B (f + 1) L a w := by
  have self : ∀ {L : Array Bool} {w : World}, (late = true → cleanB B L = true) → meetB T S B L w → (T w ∧ (late = true → S w)) ∧ meetB T S B (L.setIfInBounds i true) w := fun hc hm =>
    ⟨⟨hm.1, fun hl => hm.2 (hc hl)⟩, hm.1, fun h => hm.2 (cleanB_back h)⟩
  intro f
  induction f with
  | zero =>
    intro L a w _ hr hc hy hm H
    refine ⟨fun h => absurd hr (by rw [h]; simp), fun j hj => ?_⟩
    by_cases e : j = i
    · rw [e]; exact hy.wpOp hi (self hc hm).1 ⟨(self hc hm).2, H⟩
    · have h1 := ready_mono hj e
      rw [H.1] at h1; cases h1
  | succ f ih =>
    intro L a w hfree hr hc hy hm H
    refine ⟨fun h => absurd hr (by rw [h]; simp), fun j hj => ?_⟩
    by_cases e : j = i
    · rw [e]; exact hy.wpOp hi (self hc hm).1 ⟨(self hc hm).2, H⟩
    obtain ⟨hju, oj, hoj, hall⟩ := mem_ready.1 hj
    -- j comes up ahead of i: it does not wait for i
    have hno : ∀ x ∈ oj.after, Region.binds md x = true → x.on ≠ i := fun x hx hb he => by
      have h1 := hall x hx hb
      have h0 := (mem_ready.1 hr).1
      rw [he] at h1
      rcases Nat.lt_or_ge i L.size with hs | hs
      · simp [hs] at h0 h1; rw [h0] at h1; cases h1
      · simp [Array.getElem?_eq_none hs] at h1
    have hjB : late = true → j ∉ B := fun hl hm => by
      obtain ⟨o2, h2, x, hx, hb, he⟩ := Region.waitsFor_spec (hB hl j hm)
      obtain rfl : oj = o2 := Option.some.inj (hoj.symm.trans h2)
      exact hno x hx hb he
    have hstep := wpOp_putIf hoj (hfree j oj hoj e hju hno) (fun cs b => hsel i oi cs b hi) (fun cs b => hsel j oj cs b hoj) hQ hy (H.2 j (ready_mono hj e))
    have hfree' : ∀ k ok, ops[k]? = some ok → k ≠ i → (L.setIfInBounds j true).getD k true = false → (∀ x ∈ ok.after, Region.binds md x = true → x.on ≠ i) → oi.apart ops ok = true := fun k ok hk hki hun hn => by
      by_cases h : j = k
      · subst h; exact hfree j ok hk hki hju hn
      · rw [getD_set_ne true h] at hun; exact hfree k ok hk hki hun hn
    refine wpOp_mono (fun a' w' h3 => ?_) hstep
    have hm' : meetB T S B (L.setIfInBounds j true) w' := ⟨h3.2.1.1, fun h => h3.2.1.2 (by rw [Array.setIfInBounds_comm _ _ (fun x => e x.symm)]; exact cleanB_more hiB h)⟩
    refine ⟨hm', ih (L.setIfInBounds j true) a' w' hfree' (ready_mono hr (fun x => e x.symm)) (fun hl => cleanB_more (hjB hl) (hc hl)) h3.1 hm' ?_⟩
    rw [Array.setIfInBounds_comm _ _ e]
    exact h3.2.2

/-- Take number i first; late: it reads what B writes, B waits for it. -/
theorem wpAnyB_take {i : Nat} {oi : Oper} {v : Value} (late : Bool) {f : Nat} {L : Array Bool} {a : Act} {w : World} (hi : ops[i]? = some oi)
    (hs : Region.noSelect ops = true) (hf : Region.free md ops L i = true) (hr : (Region.ready md ops L).contains i = true) (hiB : B.contains i = false)
    (hB : (!late || (B.all (fun j => Region.waitsFor md ops j i) && cleanB B L)) = true)
    (hQ : ∀ c a w, Q (.panic c) (a.put oi.dst v) w → Q (.panic c) a w) (hy : YieldsIf P ops (fun w => T w ∧ (late = true → S w)) oi v a) (hm : meetB T S B L w)
    (h : meetB T S B (L.setIfInBounds i true) w → wpAnyB P md ops Q T S B f (L.setIfInBounds i true) (a.put oi.dst v) w) : wpAnyB P md ops Q T S B (f + 1) L a w := by
  have hl : late = true → (∀ j ∈ B, Region.waitsFor md ops j i = true) ∧ cleanB B L = true := fun e => by
    rw [e] at hB
    simpa [Bool.and_eq_true, List.all_eq_true] using hB
  exact wpAnyB_first late hi (Region.noSelect_spec hs) hQ (by simpa using hiB) (fun e => (hl e).1) f L a w (Region.free_spec hi hf) (by simpa using hr) (fun e => (hl e).2) hy hm (h ⟨hm.1, fun h => hm.2 (cleanB_back h)⟩)
theorem wpAnyB_all {rs : List Nat} {f : Nat} {L : Array Bool} {a : Act} {w : World} (hr : Region.ready md ops L = rs) (hne : rs ≠ [])
    (h : ∀ i ∈ rs, wpOp P ops Q i (fun a' w' => meetB T S B (L.setIfInBounds i true) w' ∧ wpAnyB P md ops Q T S B f (L.setIfInBounds i true) a' w') a w) : wpAnyB P md ops Q T S B (f + 1) L a w :=
  ⟨fun h0 => absurd (hr ▸ h0) hne, hr ▸ h⟩
/-- What running operation i leaves to be shown. -/
def RunsB (P : Program) (md : Region.Mode) (ops : Array Oper) (Q : Exit → Act → World → Prop) (T S : World → Prop) (B : List Nat) (f : Nat) (L : Array Bool) (a : Act) (w : World) (i : Nat) (o : Oper) : Prop :=
  ∀ K' : Act → World → Prop, Shut (∀ a w, meetB T S B (L.setIfInBounds i true) w → (meetB T S B (L.setIfInBounds i true) w → wpAnyB P md ops Q T S B f (L.setIfInBounds i true) a w) → K' a w) → if Region.wanted o (yielded ops a.tmps) = true then Oper.wp P o a w K' Q else K' (a.put o.dst undef) w
theorem RunsB.run {f : Nat} {L : Array Bool} {a : Act} {w : World} {i : Nat} {o : Oper} (ho : ops[i]? = some o) (h : RunsB P md ops Q T S B f L a w i o) :
    wpOp P ops Q i (fun a' w' => meetB T S B (L.setIfInBounds i true) w' ∧ wpAnyB P md ops Q T S B f (L.setIfInBounds i true) a' w') a w :=
  wpOp_step ho fun K' hK => h K' fun a w hS hW => hK a w ⟨hS, hW hS⟩
/-- One alone may come up. -/
theorem wpAnyB_one {i : Nat} {o : Oper} {f : Nat} {L : Array Bool} {a : Act} {w : World} (hr : Region.ready md ops L = [i]) (ho : ops[i]? = some o) (h : RunsB P md ops Q T S B f L a w i o) : wpAnyB P md ops Q T S B (f + 1) L a w :=
  wpAnyB_all hr (by simp) fun j hj => by rw [List.mem_singleton.1 hj]; exact h.run ho
theorem wpAnyB_done {L : Array Bool} {a : Act} {w : World} (hr : Region.ready md ops L = []) (h : Q .normal a w) : ∀ f, wpAnyB P md ops Q T S B f L a w
  | 0 => ⟨hr, h⟩
  | _ + 1 => ⟨fun _ => h, by rw [hr]; simp⟩
theorem wp_region_B {id : Nat} {a : Act} {w : World} (T S : World → Prop) (B : List Nat) (hm : P.follows .mixedOrders = true) (hT : T w.drew) (hS : S w.drew)
    (h : meetB T S B (Array.replicate ops.size false) w.drew → wpAnyB P .any ops Q T S B ops.size (Array.replicate ops.size false) a w.drew) : (Code.region id ops true).wp P Q a w :=
  wp_region_any hm (wpAny_of_B _ _ _ _ (h ⟨hT, fun _ => hS⟩))
end

end Go.Proofs.YtjikmjhpmkakoaaGreatDoor

namespace Go.Proofs.YtjikmjhpmkakoaaGreatDoor
open Go.RowKit

/-- A graph, right or not, has been drawn. -/
def RetAG (cb : Nat) (bo : Option Addr) (n c : Nat) (w : World) (e : Ending) (w' : World) : Prop :=
  ∃ (x : Int) (f : List Int) (g cap : Nat), (1 ≤ f.length ∧ f.length ≤ 6) ∧ e = .returned (.agg #[.int .i64 x, .slice (some ⟨g, 0, none⟩) f.length cap]) ∧ w.heap.size ≤ g ∧ RowAt w' g cap f ∧ DrewC cb bo n c w w'
theorem RetVG.any {cb n c : Nat} {bo : Option Addr} {w w' : World} {e : Ending} (h : RetVG cb bo n c w e w') : RetAG cb bo n c w e w' := by
  obtain ⟨f, g, cap, hv, he, h⟩ := h
  exact ⟨_, f, g, cap, ⟨hv.1.pos, hv.2⟩, he, h⟩
/-- What a call's end leaves that stores a graph into its result. -/
theorem end_graph {cb n c g cap N : Nat} {bo : Option Addr} {w W1 wr : World} {x : Int} {f : List Int} (hB : Below w.heap.size w W1) (hc : cb < w.heap.size) (hD : DrewC cb bo n c W1 wr) (hg : w.heap.size < g) (hR : RowAt wr g cap f) :
    RowAt ((wr.setCell ⟨w.heap.size, 0, none⟩ (.int .i64 x)).setCell ⟨w.heap.size, 1, none⟩ (.slice (some ⟨g, 0, none⟩) N cap)) g cap f ∧ DrewC cb bo n c w ((wr.setCell ⟨w.heap.size, 0, none⟩ (.int .i64 x)).setCell ⟨w.heap.size, 1, none⟩ (.slice (some ⟨g, 0, none⟩) N cap)) :=
  ⟨(hR.otherCell (by simp; omega)).otherCell (by simp; omega), ((hD.front hB).store (a := ⟨w.heap.size, 0, none⟩) (Nat.le_refl _) hc _).store (a := ⟨w.heap.size, 1, none⟩) (Nat.le_refl _) hc _⟩
theorem addV_VG {rs : List Int} (g : VG rs) (n v w : Int) : VG (addV n rs v w) := by
  unfold addV
  by_cases h : pairB n rs v w = true
  · rw [if_pos h]
    obtain ⟨-, -, a, b, rfl, rfl, -, -, hab⟩ := pairB_true h
    exact addE_VG g (by simpa using hab)
  · rw [if_neg h]; exact g

set_option maxRecDepth 100000 in
set_option maxHeartbeats 4000000 in
theorem l2Draw_any (cb n c : Nat) (bo : Option Addr) (w : World) (h : CurAt w cb bo n c) :
    Calls Tryz.prog 148 #[.pointer (some ⟨cb, 0, none⟩)] w (RetVG cb bo n c w) := by
  have hcw := h.lt
  go_enter Tryz.func148, Tryz.ntmps148
  go_wp2_with fail
  generalize hW : World.alloc _ _ = W1
  obtain ⟨hB, hs, k0⟩ := alloc1 hW
  have hD := DrewC.refl (h.below hB)
  have hs1 : w.heap.size < W1.heap.size := by omega
  clear hW hs
  have HhB := Lib.hid hB
  clear hB
  have Hk0 := Lib.hid k0
  clear k0
  refine (l1Below_any 6 cb n c bo W1 hD.cur (by omega) (by omega)).mono ?_
  rintro e w1 ⟨u, hu, rfl, hD1⟩
  replace hD := hD.trans hD1
  clear hD1
  go_wp2_with fail
  have eu : (1 : Int) + (u : Int) = ((u + 1 : Nat) : Int) := by omega
  rw [eu]
  clear eu
  obtain ⟨N, hN⟩ : ∃ N, N = u + 1 := ⟨_, rfl⟩
  have hN1 : 1 ≤ N := by omega
  have hN7 : N ≤ 7 := by omega
  have hN6 : N ≤ 6 := by omega
  rw [← hN]
  clear hN
  refine (l1Below_any 4 cb n c bo w1 hD.cur (by omega) (by omega)).mono ?_
  rintro e w2 ⟨r, hr, rfl, hD1⟩
  replace hD := hD.trans hD1
  clear hD1
  have hend : ∀ (wr : World) (f : List Int) (g cap : Nat), (VG f ∧ f.length ≤ 6) → DrewC cb bo n c W1 wr → w.heap.size < g → RowAt wr g cap f → Hid (RetVG cb bo n c w (.returned (.agg #[.int .i64 f.length, .slice (some ⟨g, 0, none⟩) f.length cap])) ((wr.setCell ⟨w.heap.size, 0, none⟩ (.int .i64 f.length)).setCell ⟨w.heap.size, 1, none⟩ (.slice (some ⟨g, 0, none⟩) f.length cap))) := fun wr f g cap hv hD hg hR => Lib.hid (by
    obtain ⟨h1, h2⟩ := end_graph (N := f.length) (x := (f.length : Int)) HhB.out hcw hD hg hR
    exact ⟨f, g, cap, hv, rfl, Nat.le_of_lt hg, h1, h2⟩)
  have hblk : ∀ wr, DrewC cb bo n c W1 wr → Blk wr w.heap.size #[.int .i64 0, .slice none 0 0] 26 := fun wr hD => hD.blk Hk0.out (by omega)
  have Hend := Lib.hid hend
  have Hblk := Lib.hid hblk
  clear hend hblk
  by_cases hr0 : r = 0
  · subst hr0
    have hw1 := hD.only.size
    go_wp2_with fail
    generalize hWs : World.alloc _ _ = Ws
    obtain ⟨hBs, hzs, ks⟩ := alloc1 hWs
    have hcw2 : cb < w2.heap.size := hD.cur.lt
    replace hD := hD.below hBs
    have hcell : ∀ j (hj : j < namesG.length), Ws.cell? ⟨w2.heap.size, j, none⟩ = some (.string namesG[j]) := fun j hj => by
      rw [ks.cell]
      match j, hj with
      | 0, _ => rfl
      | 1, _ => rfl
      | 2, _ => rfl
      | 3, _ => rfl
      | 4, _ => rfl
    have hP := l1Pick_any namesG w2.heap.size 5 cb n c bo Ws hD.cur (by decide) (by decide) (by omega) ks.lt hcell
    clear hWs ks hcell hBs
    refine hP.mono ?_
    rintro e w3 ⟨s, hs, rfl, hD1⟩
    clear hP
    replace hD := hD.trans hD1
    have hN := named_any s hs N w3 hN1 hN7
    clear hs hD1
    go_wp2_with fail
    refine hN.mono ?_
    rintro e w4 ⟨f, g, cap, hv, hfl, rfl, hg, hR, hB4⟩
    subst hfl
    have HN6 := Lib.hid hN6
    clear hN6
    have hgw : w.heap.size < g := by have := hD.only.size; omega
    replace hD := hD.below hB4
    clear hN hg hB4
    go_wp2_with fail
    generalize hWb : World.alloc _ _ = Wb
    obtain ⟨hBb, hzb, kb⟩ := alloc1 hWb
    have hg4 : g < w4.heap.size := hR.lt
    have hcb4 : cb < w4.heap.size := hD.cur.lt
    have hw4 := hD.only.size
    replace hD := hD.below hBb
    replace hR := hR.below hBb
    clear hWb hBb hzb hzs
    generalize w4.heap.size = yb at *
    refine (l1Below_any f.length cb n c bo Wb hD.cur hv.pos (by have := hv.le; omega)).mono ?_
    rintro e w5 ⟨a, ha, rfl, hD1⟩
    replace hR := hD1.row hR (by omega)
    replace kb := hD1.blk kb (by omega)
    replace hD := hD.trans hD1
    clear hD1
    go_wp2_with fail
    refine (l1Below_any f.length cb n c bo w5 hD.cur hv.pos (by have := hv.le; omega)).mono ?_
    rintro e w6 ⟨b, hb, rfl, hD1⟩
    replace hR := hD1.row hR (by omega)
    replace kb := hD1.blk kb (by omega)
    replace hD := hD.trans hD1
    clear hD1
    go_wp2_with fail
    refine (l1Once_any 2 cb n c bo w6 hD.cur (by omega) (by omega)).mono ?_
    rintro e w7 ⟨bb, rfl, hD1⟩
    replace hR := hD1.row hR (by omega)
    replace kb := hD1.blk kb (by omega)
    replace hD := hD.trans hD1
    clear hD1
    have k9 := Hblk.out _ hD
    have y0 := k9.cell 0
    have y1 := k9.cell 1
    have y2 := k9.frozen 0
    have y3 := k9.frozen 1
    have y4 := k9.lt
    simp at y0 y1
    have z0 := kb.cell 0
    have z1 := kb.cell 1
    have z4 := kb.lt
    simp at z0 z1
    cases bb
    · have HE := Hend.out _ f g cap ⟨hv, HN6.out⟩ hD (by omega) hR
      clear k9 kb hD hR
      go_wp2_with fail
      refine bodyPost_ret (v := .agg #[.int .i64 f.length, .slice (some ⟨g, 0, none⟩) f.length cap]) (by simp [results, Tryz.results148, go_sem, y0, y1]) rfl ?_
      exact HE.out
    · have hA := specAddEdge_any f.length f a b (some ⟨g, 0, none⟩) cap w7 hR.ints (by have := hv.le; omega) hv.pos
      clear k9
      have HhR := Lib.hid hR
      clear hR
      have Hkb := Lib.hid kb
      clear kb
      have HhD := Lib.hid hD
      clear hD
      go_wp2_with fail
      refine hA.mono ?_
      rintro e w8 ⟨g5, cp5, rfl, hB8, hg5, hR5⟩
      have hw7 := HhD.out.only.size
      have k5 := Hkb.out.below hB8 z4
      have r0 := k5.cell 0
      have r1 := k5.cell 1
      have r2 := k5.frozen 0
      have r3 := k5.frozen 1
      have r4 := k5.lt
      simp at r0 r1
      have hv2 := addV_VG hv f.length a b
      have hl2 := addV_len f.length f a b
      have hD2 := ((HhD.out.below hB8).store (a := ⟨yb, 0, none⟩) hw4 hcb4 (.int .i64 f.length)).store (a := ⟨yb, 1, none⟩) hw4 hcb4 (.slice (some ⟨g5, 0, none⟩) f.length cp5)
      have hR2 : RowAt ((w8.setCell ⟨yb, 0, none⟩ (.int .i64 f.length)).setCell ⟨yb, 1, none⟩ (.slice (some ⟨g5, 0, none⟩) f.length cp5)) g5 cp5 _ := (hR5.otherCell (by simp; omega)).otherCell (by simp; omega)
      have k6 : Blk ((w8.setCell ⟨yb, 0, none⟩ (.int .i64 f.length)).setCell ⟨yb, 1, none⟩ (.slice (some ⟨g5, 0, none⟩) f.length cp5)) yb #[.int .i64 f.length, .slice (some ⟨g5, 0, none⟩) f.length cp5] 26 := by
        have := (k5.store 0 (.int .i64 f.length)).store 1 (.slice (some ⟨g5, 0, none⟩) f.length cp5)
        simpa using this
      have k8 := Hblk.out _ (HhD.out.below hB8)
      have HE := Hend.out _ _ g5 cp5 ⟨hv2, by rw [hl2]; exact HN6.out⟩ hD2 (by omega) hR2
      rw [hl2] at HE
      clear y0 y1 y2 y3 y4 z0 z1 hA HhR hR5 hB8 hg5 k5 hv2 hl2 hD2 hR2
      have y0 := k8.cell 0
      have y1 := k8.cell 1
      have y2 := k8.frozen 0
      have y3 := k8.frozen 1
      have y4 := k8.lt
      simp at y0 y1
      have hne : ¬w.heap.size = yb := by omega
      have hne2 : ¬yb = w.heap.size := by omega
      clear k8 k6 HhD Hkb z4
      generalize addOk f.length f a b = BB at *
      go_wp2_with fail
      refine bodyPost_ret (v := .agg #[.int .i64 f.length, .slice (some ⟨g5, 0, none⟩) f.length cp5]) (by simp [results, Tryz.results148, go_sem, y0, y1]) rfl ?_
      exact HE.out
  · have d0 : ((r : Int) == 0) = false := by rw [beq_eq_false_iff_ne]; omega
    have hRnd : ∀ odd, Hid (Calls Tryz.prog 164 #[.pointer (some ⟨cb, 0, none⟩), .int .i64 N, .int .i64 odd] w2 (RetVG cb bo n c w2)) := fun odd => Lib.hid (l2Random_any N odd cb n c bo w2 hD.cur hN1 hN6)
    by_cases hr1 : r = 1
    all_goals
      first
        | (have d1 : ((r : Int) == 1) = false := by rw [beq_eq_false_iff_ne]; omega)
        | subst hr1
      go_wp2_with fail
      refine (hRnd _).out.mono ?_
      rintro e w3 ⟨f, g, cap, hv, rfl, hg, hR, hD1⟩
      have hsz := hD.only.size
      replace hD := hD.trans hD1
      have k9 := Hblk.out w3 hD
      have y0 := k9.cell 0
      have y1 := k9.cell 1
      have y2 := k9.frozen 0
      have y3 := k9.frozen 1
      have y4 := k9.lt
      simp at y0 y1
      have HE := Hend.out w3 f g cap hv hD (by omega) hR
      clear k9 hD1 hD hR hRnd hr
      go_wp2_with fail
      refine bodyPost_ret (v := .agg #[.int .i64 f.length, .slice (some ⟨g, 0, none⟩) f.length cap]) (by simp [results, Tryz.results148, go_sem, y0, y1]) rfl ?_
      exact HE.out

set_option maxRecDepth 100000 in
set_option maxHeartbeats 4000000 in
theorem l2Any_any (cb n c : Nat) (bo : Option Addr) (w : World) (h : CurAt w cb bo n c) :
    Calls Tryz.prog 122 #[.pointer (some ⟨cb, 0, none⟩)] w (RetAG cb bo n c w) := by
  have hcw := h.lt
  go_enter Tryz.func122, Tryz.ntmps122
  go_wp2_with fail
  generalize hW : World.alloc _ _ = W1
  obtain ⟨hB, hs, k0⟩ := alloc1 hW
  have hD := DrewC.refl (h.below hB)
  have hs1 : w.heap.size < W1.heap.size := by omega
  clear hW hs
  have HhB := Lib.hid hB
  clear hB
  have Hk0 := Lib.hid k0
  clear k0
  refine (l2Draw_any cb n c bo W1 hD.cur).mono ?_
  rintro e w2 ⟨f, g, cap, hv, rfl, hg, hR, hD1⟩
  replace hD := hD.trans hD1
  have hgw : w.heap.size < g := by omega
  have hgW := hg
  obtain ⟨hv, hf7⟩ := hv
  have hf1 := hv.pos
  clear hD1 hg
  have hend : ∀ (wr : World) (x : Int) (f : List Int) (g cap : Nat), (1 ≤ f.length ∧ f.length ≤ 6) → DrewC cb bo n c W1 wr → w.heap.size < g → RowAt wr g cap f → Hid (RetAG cb bo n c w (.returned (.agg #[.int .i64 x, .slice (some ⟨g, 0, none⟩) f.length cap])) ((wr.setCell ⟨w.heap.size, 0, none⟩ (.int .i64 x)).setCell ⟨w.heap.size, 1, none⟩ (.slice (some ⟨g, 0, none⟩) f.length cap))) := fun wr x f g cap hv hD hg hR => Lib.hid (by
    obtain ⟨h1, h2⟩ := end_graph (N := f.length) (x := x) HhB.out hcw hD hg hR
    exact ⟨x, f, g, cap, hv, rfl, Nat.le_of_lt hg, h1, h2⟩)
  have hblk : ∀ wr, DrewC cb bo n c W1 wr → Blk wr w.heap.size #[.int .i64 0, .slice none 0 0] 26 := fun wr hD => hD.blk Hk0.out (by omega)
  have Hend := Lib.hid hend
  have Hblk := Lib.hid hblk
  clear hend hblk
  go_wp2_with fail
  generalize hWb : World.alloc _ _ = Wb
  obtain ⟨hBb, hzb, kb⟩ := alloc1 hWb
  have hg4 : g < w2.heap.size := hR.lt
  have hcb4 : cb < w2.heap.size := hD.cur.lt
  have hw4 := hD.only.size
  replace hD := hD.below hBb
  replace hR := hR.below hBb
  clear hWb hBb hzb
  generalize w2.heap.size = yb at *
  have hne : ¬w.heap.size = yb := by omega
  have hne2 : ¬yb = w.heap.size := by omega
  refine (l1Below_any 18 cb n c bo Wb hD.cur (by omega) (by omega)).mono ?_
  rintro e w3 ⟨r, hr, rfl, hD1⟩
  replace hR := hD1.row hR (by omega)
  replace kb := hD1.blk kb (by omega)
  replace hD := hD.trans hD1
  clear hD1
  by_cases hr0 : r = 0
  · subst hr0
    go_wp2_with fail
    generalize hWs : World.alloc _ _ = Ws
    obtain ⟨hBs, hzs, ks⟩ := alloc1 hWs
    have hcw2 : cb < w3.heap.size := hD.cur.lt
    replace hD := hD.below hBs
    replace hR := hR.below hBs
    replace kb := kb.below hBs kb.lt
    have hP := l1PickInt_any [0, -1, 8, 3] w3.heap.size 4 cb n c bo Ws hD.cur (by decide) (by decide) (by omega) ks.lt (fun j hj => by
      rw [ks.cell]
      match j, hj with
      | 0, _ => rfl
      | 1, _ => rfl
      | 2, _ => rfl
      | 3, _ => rfl)
    clear hWs ks hBs
    refine hP.mono ?_
    rintro e w4 ⟨j, hj, rfl, hD1⟩
    clear hP
    generalize gi [0, -1, 8, 3] j = z at *
    replace hR := hD1.row hR (by omega)
    replace kb := hD1.blk kb (by omega)
    replace hD := hD.trans hD1
    clear hD1 hj
    have k9 := Hblk.out _ hD
    have y0 := k9.cell 0
    have y1 := k9.cell 1
    have y2 := k9.frozen 0
    have y3 := k9.frozen 1
    have y4 := k9.lt
    have z0 := kb.cell 0
    have z1 := kb.cell 1
    have z2 := kb.frozen 0
    have z4 := kb.lt
    simp at y0 y1 z0 z1
    have HE := Hend.out _ z f g cap ⟨hf1, hf7⟩ (hD.store (a := ⟨yb, 0, none⟩) hw4 hcb4 (.int .i64 z)) hgw (hR.otherCell (by simp; omega))
    clear k9 kb hD hR
    go_wp2_with fail
    refine bodyPost_ret (v := .agg #[.int .i64 z, .slice (some ⟨g, 0, none⟩) f.length cap]) (by simp [results, Tryz.results122, go_sem, y0, y1]) rfl ?_
    exact HE.out
  · have d0 : ((r : Int) == 0) = false := by rw [beq_eq_false_iff_ne]; omega
    have k9 := Hblk.out _ hD
    have y0 := k9.cell 0
    have y1 := k9.cell 1
    have y2 := k9.frozen 0
    have y3 := k9.frozen 1
    have y4 := k9.lt
    have z0 := kb.cell 0
    have z1 := kb.cell 1
    have z4 := kb.lt
    simp at y0 y1 z0 z1
    by_cases hr1 : r = 1
    · subst hr1
      have hcg : cb < g := by omega
      have hgy : ¬g = yb := by omega
      have hf0 : 0 < f.length := by omega
      clear k9 z4
      go_wp2_with fail
      have hT0 : ∀ w', DrewC cb bo n c w3 w' → ((Only (fun b => b = cb ∨ b = g) w3.heap.size w3 w' ∧ CurAt w' cb bo n c) ∧ w'.cell? ⟨yb, 1, none⟩ = some (.slice (some ⟨g, 0, none⟩) f.length cap)) := fun w' h =>
        ⟨⟨h.only.mono (Nat.le_refl _) fun _ _ e => .inl e, h.cur⟩, (h.only.cell (p := ⟨yb, 1, none⟩) kb.lt (fun e => by have e2 : yb = cb := e; omega)).trans z1⟩
      refine wp_region_B (fun w' => (Only (fun b => b = cb ∨ b = g) w3.heap.size w3 w' ∧ CurAt w' cb bo n c) ∧ w'.cell? ⟨yb, 1, none⟩ = some (.slice (some ⟨g, 0, none⟩) f.length cap)) (fun _ => True) [] (by kernel_rfl) (hT0 _ ((DrewC.refl hD.cur).below (Below.refl _ _).drew)) (trivial) (fun hM => ?_)
      refine wpAnyB_take (i := 0) (v := ?_) false rfl (by kernel_rfl) (by kernel_rfl) (by kernel_rfl) (by kernel_rfl) (by kernel_rfl) (fun _ _ _ h => h) (Or.inl ⟨by rfl, ?_⟩) hM (fun hM2 => ?_)
      rotate_left
      · (intro w hSw; replace hSw := hSw.1; (try dsimp only at hSw); go_simp; try with_reducible rfl)
      replace hM := hM2
      clear hM2
      try simp only [List.getElem_toArray, List.getElem_cons_zero, Act.put, List.setIfInBounds_toArray, List.set_cons_zero, List.set_cons_succ]
      refine wpAnyB_take (i := 1) (v := ?_) false rfl (by kernel_rfl) (by kernel_rfl) (by kernel_rfl) (by kernel_rfl) (by kernel_rfl) (fun _ _ _ h => h) (Or.inl ⟨by rfl, ?_⟩) hM (fun hM2 => ?_)
      rotate_left
      · (intro w hSw; replace hSw := hSw.1; (try dsimp only at hSw); go_simp; try with_reducible rfl)
      replace hM := hM2
      clear hM2
      try simp only [List.getElem_toArray, List.getElem_cons_succ, List.getElem_cons_zero, Act.put, List.setIfInBounds_toArray, List.set_cons_zero, List.set_cons_succ]
      refine wpAnyB_take (i := 2) (v := ?_) false rfl (by kernel_rfl) (by kernel_rfl) (by kernel_rfl) (by kernel_rfl) (by kernel_rfl) (fun _ _ _ h => h) (Or.inl ⟨by rfl, ?_⟩) hM (fun hM2 => ?_)
      rotate_left
      · (intro w hSw; replace hSw := hSw.1; (try dsimp only at hSw); go_simp; try with_reducible rfl)
      replace hM := hM2
      clear hM2
      try simp only [List.getElem_toArray, List.getElem_cons_succ, List.getElem_cons_zero, Act.put, List.setIfInBounds_toArray, List.set_cons_zero, List.set_cons_succ]
      have hA0 : ∀ cs : Array Value, DrewC cb bo n c w3 (w3.alloc (.cells cs 3)).drew := fun cs => (DrewC.refl hD.cur).below ((Below.refl _ _).alloc (Nat.le_refl _) _).drew
      refine wpAnyB_one (i := 3) (by kernel_rfl) rfl (fun K hK => ?_)
      go_simp
      refine hK.out _ _ (meetB.both (hT0 _ (hA0 _)) trivial) (fun hM2 => ?_)
      clear hK K
      replace hM := hM2
      clear hM2
      try simp only [List.getElem_toArray, List.getElem_cons_succ, List.getElem_cons_zero, Act.put, List.setIfInBounds_toArray, List.set_cons_zero, List.set_cons_succ]
      have hcell : ∀ j, j < [(-1 : Int), 1, 2, 128, 9223372036854775807].length → (w3.alloc (.cells #[.int .i64 (-1), .int .i64 1, .int .i64 2, .int .i64 128, .int .i64 9223372036854775807] 3)).drew.cell? ⟨w3.heap.size, j, none⟩ = some (.int .i64 (gi [-1, 1, 2, 128, 9223372036854775807] j)) := fun j hj => by
        obtain ⟨-, -, h3, -⟩ := box_facts (w := w3) (cs := #[.int .i64 (-1), .int .i64 1, .int .i64 2, .int .i64 128, .int .i64 9223372036854775807]) (T := 3) rfl
        have h4 := h3 j
        match j, hj with
        | 0, _ => exact h4
        | 1, _ => exact h4
        | 2, _ => exact h4
        | 3, _ => exact h4
        | 4, _ => exact h4
      have hP := l1PickInt_any [-1, 1, 2, 128, 9223372036854775807] w3.heap.size 5 cb n c bo _ (hA0 #[.int .i64 (-1), .int .i64 1, .int .i64 2, .int .i64 128, .int .i64 9223372036854775807]).cur (by decide) (by decide) (by have := hD.cur.lt; omega) (by simp) hcell
      clear hcell
      refine wpAnyB_one (i := 4) (by kernel_rfl) rfl (fun K hK => ?_)
      (go_simp; go_at_call 111; refine hP.mono ?_; rintro e w4 ⟨j, hj, rfl, hD1⟩; have hD4 := (hA0 #[.int .i64 (-1), .int .i64 1, .int .i64 2, .int .i64 128, .int .i64 9223372036854775807]).trans hD1; dsimp only)
      refine hK.out _ _ (meetB.both (hT0 _ hD4) trivial) (fun hM2 => ?_)
      clear hK K
      replace hM := hM2
      clear hM2
      try simp only [List.getElem_toArray, List.getElem_cons_succ, List.getElem_cons_zero, Act.put, List.setIfInBounds_toArray, List.set_cons_zero, List.set_cons_succ]
      generalize gi [-1, 1, 2, 128, 9223372036854775807] j = z at *
      have hR4 := hD4.row hR (by omega)
      have q0 := hR4.cell 0 hf0
      have q1 := hR4.frozen 0
      have q2 := hR4.lt
      refine wpAnyB_take (i := 5) (v := ?_) false rfl (by kernel_rfl) (by kernel_rfl) (by kernel_rfl) (by kernel_rfl) (by kernel_rfl) (fun _ _ _ h => h) (Or.inl ⟨by rfl, ?_⟩) hM (fun hM2 => ?_)
      rotate_left
      · (intro w hSw; replace hSw := hSw.1; (try dsimp only at hSw); go_simp; try with_reducible rfl)
      replace hM := hM2
      clear hM2
      try simp only [List.getElem_toArray, List.getElem_cons_succ, List.getElem_cons_zero, Act.put, List.setIfInBounds_toArray, List.set_cons_zero, List.set_cons_succ]
      have hOg : Only (fun b => b = g) w4.heap.size w4 (w4.setCell ⟨g, 0, none⟩ (.int .i64 z)) := (Only.refl (fun b => b = g) _ _).setCell (p := ⟨g, 0, none⟩) (.inl rfl) _
      have hO9 : Only (fun b => b = cb ∨ b = g) w3.heap.size w3 (w4.setCell ⟨g, 0, none⟩ (.int .i64 z)) := (hD4.only.mono (Nat.le_refl _) fun _ _ e => .inl e).setCell (p := ⟨g, 0, none⟩) (.inl (.inr rfl)) _
      refine wpAnyB_one (i := 6) (by kernel_rfl) rfl (fun K hK => ?_)
      go_simp
      refine hK.out _ _ (meetB.both ⟨⟨hO9, hD4.cur.only hOg (fun b hb e => by have e2 : b = g := e; omega)⟩, (hO9.cell (p := ⟨yb, 1, none⟩) kb.lt (fun e => by rcases e with e | e; (have e2 : yb = cb := e; omega); exact hgy (Eq.symm e))).trans z1⟩ trivial) (fun hM2 => ?_)
      clear hK K
      replace hM := hM2
      clear hM2
      try simp only [List.getElem_toArray, List.getElem_cons_succ, List.getElem_cons_zero, Act.put, List.setIfInBounds_toArray, List.set_cons_zero, List.set_cons_succ]
      refine wpAnyB_done (by kernel_rfl) ?_ _
      have hD9 := (hD.trans hD4).store (a := ⟨g, 0, none⟩) hgW hcg (.int .i64 z)
      have hR9 := hR4.store 0 z
      have k9 := Hblk.out _ hD9
      have kb9 := hO9.blk kb kb.lt (fun e => by rcases e with e | e; (have e2 : yb = cb := e; omega); exact hgy (Eq.symm e))
      have HE := Hend.out _ f.length _ g cap (by rw [List.length_set]; exact ⟨hf1, hf7⟩) hD9 hgw hR9
      rw [List.length_set] at HE
      clear y0 y1 y2 y3 y4 z0 z1 hR4 hR9 hD9 hOg hO9 hD4 hD1 hD hR kb hA0 hP hM hT0 q0 q1 q2 hj
      generalize World.setCell _ _ _ = W9 at *
      have y0 := k9.cell 0
      have y1 := k9.cell 1
      have y2 := k9.frozen 0
      have y3 := k9.frozen 1
      have y4 := k9.lt
      have z0 := kb9.cell 0
      have z1 := kb9.cell 1
      have z4 := kb9.lt
      simp at y0 y1 z0 z1
      clear k9 kb9
      go_wp2_with fail
      refine bodyPost_ret (v := .agg #[.int .i64 f.length, .slice (some ⟨g, 0, none⟩) f.length cap]) (by simp [results, Tryz.results122, go_sem, y0, y1]) rfl ?_
      exact HE.out
    · have d1 : ((r : Int) == 1) = false := by rw [beq_eq_false_iff_ne]; omega
      have HE := Hend.out _ f.length f g cap ⟨hf1, hf7⟩ hD hgw hR
      clear k9 kb hD hR
      go_wp2_with fail
      refine bodyPost_ret (v := .agg #[.int .i64 f.length, .slice (some ⟨g, 0, none⟩) f.length cap]) (by simp [results, Tryz.results122, go_sem, y0, y1]) rfl ?_
      exact HE.out

theorem CurAt.other {w : World} {cb n c B r i : Nat} {bo : Option Addr} (h : CurAt w cb bo n c) (hb : BytesU B w bo n) (hB : B ≤ r) (hr : r < cb) (u : Value) : CurAt (w.setCell ⟨r, i, none⟩ u) cb bo n c ∧ BytesU B (w.setCell ⟨r, i, none⟩ u) bo n := by
  have hO : Only (fun b => b = r) w.heap.size w (w.setCell ⟨r, i, none⟩ u) := (Only.refl (fun b => b = r) _ _).setCell (p := ⟨r, i, none⟩) (.inl rfl) u
  have h2 := hb.only hO fun b hb e => by have e2 : b = r := e; omega
  obtain ⟨k, x, h1, k0⟩ := h.box
  exact ⟨⟨⟨k, x, h1, hO.blk k0 k0.lt fun e => by have e2 : cb = r := e; omega⟩, h2.mono (by omega), h.len⟩, h2⟩
/-- A graph, right or not, has been drawn from a text. -/
def RetAN (w : World) (e : Ending) (w' : World) : Prop :=
  ∃ (x : Int) (f : List Int) (g cap : Nat), (1 ≤ f.length ∧ f.length ≤ 6) ∧ e = .returned (.agg #[.int .i64 x, .slice (some ⟨g, 0, none⟩) f.length cap]) ∧ w.heap.size ≤ g ∧ RowAt w' g cap f ∧ Below w.heap.size w w'

end Go.Proofs.YtjikmjhpmkakoaaGreatDoor
