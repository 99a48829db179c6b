/-
  What a drawing leaves as it was. No conditions.
  A law of regions that draw their order: an operation that only reads may be taken first if the operations that write what it reads wait for it. No conditions.
-/
import Derived.Test.YtjikmjhpmkakoaaGreatDoorPkCardHereditary10
import Derived.Test.YtjikmjhpmkakoaaGreatDoorPkCardHereditary05
import Derived.Test.YtjikmjhpmkakoaaGreatDoorPkCardHereditary01
import Derived.Deep.RegionHeld3
import Derived.StillTail
namespace Go.Proofs.YtjikmjhpmkakoaaGreatDoor
open Go.RowKit

theorem DrewC.below {cb n c : Nat} {bo : Option Addr} {w w1 w2 : World} (h : DrewC cb bo n c w w1) (hb : Below w1.heap.size w1 w2) : DrewC cb bo n c w w2 := ⟨h.only.more hb h.only.size, h.cur.below hb⟩
theorem DrewC.refl {cb n c : Nat} {bo : Option Addr} {w : World} (h : CurAt w cb bo n c) : DrewC cb bo n c w w := ⟨Only.refl _ _ _, h⟩
theorem DrewC.front {cb n c : Nat} {bo : Option Addr} {w w1 w2 : World} (h : DrewC cb bo n c w1 w2) (hb : Below w.heap.size w w1) : DrewC cb bo n c w w2 := ⟨(Only.of hb).trans (h.only.mono hb.size fun _ _ e => e), h.cur⟩
theorem DrewC.store {cb n c : Nat} {bo : Option Addr} {w w1 : World} (h : DrewC cb bo n c w w1) {a : Addr} (ha : w.heap.size ≤ a.block) (hc : cb < a.block) (u : Value) : DrewC cb bo n c w (w1.setCell a u) :=
  ⟨h.only.setCell (.inr ha) u, h.cur.only (X := fun b => b = a.block) ((Only.refl (fun b => b = a.block) _ _).setCell (p := a) (.inl rfl) u) fun b hb e => by have e2 : b = a.block := e; omega⟩
theorem DrewC.row {cb n c g cap : Nat} {bo : Option Addr} {w w1 : World} {xs : List Int} (h : DrewC cb bo n c w w1) (hR : RowAt w g cap xs) (hg : cb ≠ g) : RowAt w1 g cap xs := hR.onlyB h.only fun e => hg e.symm
theorem DrewC.blk {cb n c b : Nat} {bo : Option Addr} {w w1 : World} {cs : Array Value} {T : TypeId} (h : DrewC cb bo n c w w1) (hb : Blk w b cs T) (hg : cb ≠ b) : Blk w1 b cs T := h.only.blk hb hb.lt fun e => hg e.symm

theorem Only.from {base : Nat} {w w' : World} (h : Below base w w') : Only (fun b => base ≤ b) w.heap.size w w' := ⟨h.os, h.tape, h.output, h.size, fun k _ hx => h.block k (by omega)⟩
theorem DrewC.grow {cb n c base : Nat} {bo : Option Addr} {w w1 w2 : World} (h : DrewC cb bo n c w w1) (hb : Below base w1 w2) (h1 : w.heap.size ≤ base) (h2 : cb < base) : DrewC cb bo n c w w2 :=
  ⟨h.only.more hb h1, h.cur.only (Only.from hb) fun b hb e => by have e2 : base ≤ b := e; omega⟩

theorem l1BelowI_any (z : Int) (cb n c : Nat) (bo : Option Addr) (w : World) (h : CurAt w cb bo n c) (h1 : 1 ≤ z) (h2 : z ≤ 256) :
    Calls Tryz.prog 110 #[.pointer (some ⟨cb, 0, none⟩), .int .i64 z] w (RetN cb bo n c z.toNat w) := by
  obtain ⟨k, rfl⟩ := Int.eq_ofNat_of_zero_le (show 0 ≤ z by omega)
  exact l1Below_any k cb n c bo w h (by omega) (by omega)

end Go.Proofs.YtjikmjhpmkakoaaGreatDoor

namespace Go.Proofs.YtjikmjhpmkakoaaGreatDoor
open Go.RowKit

section
variable {P : Program} {ops : Array Oper} {Q : Exit → Act → World → Prop} {md : Region.Mode} {T S : World → Prop} {B : List Nat}

/-- None of B has come up. -/
def cleanB (B : List Nat) (L : Array Bool) : Bool := B.all fun b => !L.getD b false
/-- The world meets T, and S as long as none of B has come up. -/
def meetB (T S : World → Prop) (B : List Nat) (L : Array Bool) (w : World) : Prop := T w ∧ (cleanB B L = true → S w)
theorem meetB.late {L : Array Bool} {w : World} (hT : T w) (h : cleanB B L = false) : meetB T S B L w := ⟨hT, fun e => by rw [h] at e; cases e⟩
theorem meetB.both {L : Array Bool} {w : World} (hT : T w) (hS : S w) : meetB T S B L w := ⟨hT, fun _ => hS⟩
theorem cleanB_back {i : Nat} {L : Array Bool} (h : cleanB B (L.setIfInBounds i true) = true) : cleanB B L = true := by
  unfold cleanB at *
  rw [List.all_eq_true] at *
  intro b hb
  have h1 := h b hb
  cases e : L.getD b false
  · rfl
  · rw [getD_set_true e] at h1; cases h1
theorem cleanB_more {i : Nat} {L : Array Bool} (hi : i ∉ B) (h : cleanB B L = true) : cleanB B (L.setIfInBounds i true) = true := by
  unfold cleanB at *
  rw [List.all_eq_true] at *
  intro b hb
  rw [getD_set_ne false (fun e => hi (by rw [e]; exact hb))]
  exact h b hb

def wpAnyB (P : Program) (md : Region.Mode) (ops : Array Oper) (Q : Exit → Act → World → Prop) (T S : World → Prop) (B : List Nat) : Nat → Array Bool → Act → World → Prop
  | 0, L, a, w => Region.ready md ops L = [] ∧ Q .normal a w
  | f + 1, L, a, w => (Region.ready md ops L = [] → Q .normal a w) ∧
    ∀ i ∈ Region.ready md ops L, wpOp P ops Q i (fun a' w' => meetB T S B (L.setIfInBounds i true) w' ∧ wpAnyB P md ops Q T S B f (L.setIfInBounds i true) a' w') a w
theorem wpAny_of_B : ∀ (f : Nat) (L : Array Bool) (a : Act) (w : World), wpAnyB P md ops Q T S B f L a w → wpAny P md ops Q f L a w
  | 0, _, _, _, h => h
  | f + 1, _, _, _, h => ⟨h.1, fun i hi => wpOp_mono (fun _ _ h' => wpAny_of_B f _ _ _ h'.2) (h.2 i hi)⟩

theorem wpAnyB_first {i : Nat} {oi : Oper} {v : Value} (late : Bool) (hi : ops[i]? = some oi) (hsel : ∀ (j : Nat) (o : Oper) cs b, ops[j]? = some o → o.op ≠ .select cs b)
    (hQ : ∀ c a w, Q (.panic c) (a.put oi.dst v) w → Q (.panic c) a w) (hiB : i ∉ B) (hB : late = true → ∀ j ∈ B, Region.waitsFor md ops j i = true) :
    ∀ (f : Nat) (L : Array Bool) (a : Act) (w : World),
      (∀ j oj, ops[j]? = some oj → j ≠ i → L.getD j true = false → (∀ e ∈ oj.after, Region.binds md e = true → e.on ≠ i) → oi.apart ops oj = true) →
      i ∈ Region.ready md ops L → (late = true → cleanB B L = true) → YieldsIf P ops (fun w => T w ∧ (late = true → S w)) oi v a → meetB T S B L w →
      wpAnyB P md ops Q T S B f (L.setIfInBounds i true) (a.put oi.dst v) w → wpAnyB P md ops Q T S B (f + 1) L a w := by
  have self : ∀ {L : Array Bool} {w : World}, (late = true → cleanB B L = true) → meetB T S B L w → (T w ∧ (late = true → S w)) ∧ meetB T S B (L.setIfInBounds i true) w := fun hc hm =>
    ⟨⟨hm.1, fun hl => hm.2 (hc hl)⟩, hm.1, fun h => hm.2 (cleanB_back h)⟩
  intro f
  induction f with
  | zero =>
    intro L a w _ hr hc hy hm H
    refine ⟨fun h => absurd hr (by rw [h]; simp), fun j hj => ?_⟩
    by_cases e : j = i
    · rw [e]; exact hy.wpOp hi (self hc hm).1 ⟨(self hc hm).2, H⟩
    · have h1 := ready_mono hj e
      rw [H.1] at h1; cases h1
  | succ f ih =>
    intro L a w hfree hr hc hy hm H
    refine ⟨fun h => absurd hr (by rw [h]; simp), fun j hj => ?_⟩
    by_cases e : j = i
    · rw [e]; exact hy.wpOp hi (self hc hm).1 ⟨(self hc hm).2, H⟩
    obtain ⟨hju, oj, hoj, hall⟩ := mem_ready.1 hj
    -- j comes up ahead of i: it does not wait for i
    have hno : ∀ x ∈ oj.after, Region.binds md x = true → x.on ≠ i := fun x hx hb he => by
      have h1 := hall x hx hb
      have h0 := (mem_ready.1 hr).1
      rw [he] at h1
      rcases Nat.lt_or_ge i L.size with hs | hs
      · simp [hs] at h0 h1; rw [h0] at h1; cases h1
      · simp [Array.getElem?_eq_none hs] at h1
    have hjB : late = true → j ∉ B := fun hl hm => by
      obtain ⟨o2, h2, x, hx, hb, he⟩ := Region.waitsFor_spec (hB hl j hm)
      obtain rfl : oj = o2 := Option.some.inj (hoj.symm.trans h2)
      exact hno x hx hb he
    have hstep := wpOp_putIf hoj (hfree j oj hoj e hju hno) (fun cs b => hsel i oi cs b hi) (fun cs b => hsel j oj cs b hoj) hQ hy (H.2 j (ready_mono hj e))
    have hfree' : ∀ k ok, ops[k]? = some ok → k ≠ i → (L.setIfInBounds j true).getD k true = false → (∀ x ∈ ok.after, Region.binds md x = true → x.on ≠ i) → oi.apart ops ok = true := fun k ok hk hki hun hn => by
      by_cases h : j = k
      · subst h; exact hfree j ok hk hki hju hn
      · rw [getD_set_ne true h] at hun; exact hfree k ok hk hki hun hn
    refine wpOp_mono (fun a' w' h3 => ?_) hstep
    have hm' : meetB T S B (L.setIfInBounds j true) w' := ⟨h3.2.1.1, fun h => h3.2.1.2 (by rw [Array.setIfInBounds_comm _ _ (fun x => e x.symm)]; exact cleanB_more hiB h)⟩
    refine ⟨hm', ih (L.setIfInBounds j true) a' w' hfree' (ready_mono hr (fun x => e x.symm)) (fun hl => cleanB_more (hjB hl) (hc hl)) h3.1 hm' ?_⟩
    rw [Array.setIfInBounds_comm _ _ e]
    exact h3.2.2

/-- Take number i first; late: it reads what B writes, B waits for it. -/
theorem wpAnyB_take {i : Nat} {oi : Oper} {v : Value} (late : Bool) {f : Nat} {L : Array Bool} {a : Act} {w : World} (hi : ops[i]? = some oi)
    (hs : Region.noSelect ops = true) (hf : Region.free md ops L i = true) (hr : (Region.ready md ops L).contains i = true) (hiB : B.contains i = false)
    (hB : (!late || (B.all (fun j => Region.waitsFor md ops j i) && cleanB B L)) = true)
    (hQ : ∀ c a w, Q (.panic c) (a.put oi.dst v) w → Q (.panic c) a w) (hy : YieldsIf P ops (fun w => T w ∧ (late = true → S w)) oi v a) (hm : meetB T S B L w)
    (h : meetB T S B (L.setIfInBounds i true) w → wpAnyB P md ops Q T S B f (L.setIfInBounds i true) (a.put oi.dst v) w) : wpAnyB P md ops Q T S B (f + 1) L a w := by
  have hl : late = true → (∀ j ∈ B, Region.waitsFor md ops j i = true) ∧ cleanB B L = true := fun e => by
    rw [e] at hB
    simpa [Bool.and_eq_true, List.all_eq_true] using hB
  exact wpAnyB_first late hi (Region.noSelect_spec hs) hQ (by simpa using hiB) (fun e => (hl e).1) f L a w (Region.free_spec hi hf) (by simpa using hr) (fun e => (hl e).2) hy hm (h ⟨hm.1, fun h => hm.2 (cleanB_back h)⟩)
theorem wpAnyB_all {rs : List Nat} {f : Nat} {L : Array Bool} {a : Act} {w : World} (hr : Region.ready md ops L = rs) (hne : rs ≠ [])
    (h : ∀ i ∈ rs, wpOp P ops Q i (fun a' w' => meetB T S B (L.setIfInBounds i true) w' ∧ wpAnyB P md ops Q T S B f (L.setIfInBounds i true) a' w') a w) : wpAnyB P md ops Q T S B (f + 1) L a w :=
  ⟨fun h0 => absurd (hr ▸ h0) hne, hr ▸ h⟩
/-- What running operation i leaves to be shown. -/
def RunsB (P : Program) (md : Region.Mode) (ops : Array Oper) (Q : Exit → Act → World → Prop) (T S : World → Prop) (B : List Nat) (f : Nat) (L : Array Bool) (a : Act) (w : World) (i : Nat) (o : Oper) : Prop :=
  ∀ K' : Act → World → Prop, Shut (∀ a w, meetB T S B (L.setIfInBounds i true) w → (meetB T S B (L.setIfInBounds i true) w → wpAnyB P md ops Q T S B f (L.setIfInBounds i true) a w) → K' a w) → if Region.wanted o (yielded ops a.tmps) = true then Oper.wp P o a w K' Q else K' (a.put o.dst undef) w
theorem RunsB.run {f : Nat} {L : Array Bool} {a : Act} {w : World} {i : Nat} {o : Oper} (ho : ops[i]? = some o) (h : RunsB P md ops Q T S B f L a w i o) :
    wpOp P ops Q i (fun a' w' => meetB T S B (L.setIfInBounds i true) w' ∧ wpAnyB P md ops Q T S B f (L.setIfInBounds i true) a' w') a w :=
  wpOp_step ho fun K' hK => h K' fun a w hS hW => hK a w ⟨hS, hW hS⟩
/-- One alone may come up. -/
theorem wpAnyB_one {i : Nat} {o : Oper} {f : Nat} {L : Array Bool} {a : Act} {w : World} (hr : Region.ready md ops L = [i]) (ho : ops[i]? = some o) (h : RunsB P md ops Q T S B f L a w i o) : wpAnyB P md ops Q T S B (f + 1) L a w :=
  wpAnyB_all hr (by simp) fun j hj => by rw [List.mem_singleton.1 hj]; exact h.run ho
/-- One of two. -/
theorem wpAnyB_two {i j : Nat} {o o2 : Oper} {f : Nat} {L : Array Bool} {a : Act} {w : World} (hr : Region.ready md ops L = [i, j]) (ho : ops[i]? = some o) (ho2 : ops[j]? = some o2) (h : RunsB P md ops Q T S B f L a w i o) (h2 : RunsB P md ops Q T S B f L a w j o2) :
    wpAnyB P md ops Q T S B (f + 1) L a w :=
  wpAnyB_all hr (by simp) fun k hk => by
    rcases List.mem_cons.1 hk with rfl | hk
    · exact h.run ho
    · rw [List.mem_singleton.1 hk]; exact h2.run ho2
theorem wpAnyB_done {L : Array Bool} {a : Act} {w : World} (hr : Region.ready md ops L = []) (h : Q .normal a w) : ∀ f, wpAnyB P md ops Q T S B f L a w
  | 0 => ⟨hr, h⟩
  | _ + 1 => ⟨fun _ => h, by rw [hr]; simp⟩
theorem wp_region_B {id : Nat} {a : Act} {w : World} (T S : World → Prop) (B : List Nat) (hm : P.follows .mixedOrders = true) (hT : T w.drew) (hS : S w.drew)
    (h : meetB T S B (Array.replicate ops.size false) w.drew → wpAnyB P .any ops Q T S B ops.size (Array.replicate ops.size false) a w.drew) : (Code.region id ops true).wp P Q a w :=
  wp_region_any hm (wpAny_of_B _ _ _ _ (h ⟨hT, fun _ => hS⟩))
end

end Go.Proofs.YtjikmjhpmkakoaaGreatDoor
