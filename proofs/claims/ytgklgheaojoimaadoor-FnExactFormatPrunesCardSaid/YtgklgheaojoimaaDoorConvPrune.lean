/-
  The walks of the laws' helpers on lists of prunes: eqPruneS, markPruneS, heldPruneS. For lists of at most 2^20 elements.
-/
import Derived.Test.YtgklgheaojoimaaDoorPruneR
import Derived.Test.YtgklgheaojoimaaDoorMarkX
namespace Go.Proofs.YtgklgheaojoimaaDoor
open Go.RowKit

theorem eqPrune_same (x y z : Int) (w : World) :
    Calls Tryd.prog 54 #[.agg #[.int .i64 x, .int .i64 y, .int .i64 z], .agg #[.int .i64 x, .int .i64 y, .int .i64 z]] w fun e w' => e = .returned (.bool true) ∧ Below w.heap.size w w' := by
  go_enter Tryd.func54, Tryd.ntmps54
  go_wp2_with fail
  go_ret
  exact ⟨rfl, ((Below.refl _ _).alloc (Nat.le_refl _) _).alloc (by simp) _⟩

set_option maxHeartbeats 1000000 in
/-- Two lists that read alike, as rows of 3 n integers. -/
theorem eqPruneS_same (n : Nat) (xs : List Int) (hx : xs.length = n * 3) (ao bo : Option Addr) (c d : Nat) (w : World) (h1 : IntsAt w ao xs) (h2 : IntsAt w bo xs) (hn : n ≤ 1048576) :
    Calls Tryd.prog 31 #[.slice ao n c, .slice bo n d] w fun e w' => e = .returned (.bool true) ∧ Below w.heap.size w w' := by
  have hb : ((n : Int) != n) = false := by simp
  go_enter Tryd.func31, Tryd.ntmps31
  go_wp2_with fail
  go_loopw [5] (fun i wr => (∃ m : Later w, wr = m.w) ∧ ∃ k : Nat, k ≤ n ∧ i = .int .i64 k) (fun i _ => n - (intOf i).toNat)
  case atStart => exact ⟨⟨Later.refl _, rfl⟩, 0, by omega, rfl⟩
  case round =>
    obtain ⟨⟨m, rfl⟩, k, hk, rfl⟩ := hrel
    by_cases hlt : k < n
    · obtain ⟨b, off, rfl, hb1, hc⟩ := h1 (by omega)
      obtain ⟨b2, off2, rfl, hb2, hc2⟩ := h2 (by omega)
      have x0 := hc (k * 3) (by omega)
      have x1 := hc (k * 3 + 1) (by omega)
      have x2 := hc (k * 3 + 2) (by omega)
      have y0 := hc2 (k * 3) (by omega)
      have y1 := hc2 (k * 3 + 1) (by omega)
      have y2 := hc2 (k * 3 + 2) (by omega)
      rw [← Nat.add_assoc] at x1 x2 y1 y2
      have hE := fun m : Later w => eqPrune_same (gi xs (k * 3)) (gi xs (k * 3 + 1)) (gi xs (k * 3 + 2)) m.w
      clear hc hc2
      generalize gi xs (k * 3) = X at *
      generalize gi xs (k * 3 + 1) = Y at *
      generalize gi xs (k * 3 + 2) = Z at *
      have Hhx := Lib.hid hx
      clear hx
      go_wp2_with fail
      refine wp_region_later m rfl (by kernel_rfl) (by kernel_rfl) ?_
      repeat (go_big_quiet_step ((first | (go_at_call 54; with_reducible exact Calls.later _ (hE _)))))
      refine wpQuiet_nil ?_
      rintro _ ⟨m, rfl⟩
      go_wp2_with fail
      go_roundw
      case rel => exact ⟨⟨m, rfl⟩, k + 1, by omega, by go_num⟩
      case measure => simp [intOf]; omega
    · go_wp2_with fail
      go_ret
      exact ⟨rfl, m.below⟩

/-- Block g begins with the integers xs, nothing frozen. -/
def RowW (T : TypeId) (w : World) (g : Nat) (xs : List Int) : Prop := ∃ cur, Blk w g cur T ∧ cur.toList.take xs.length = xs.map (Value.int .i64)
theorem RowW.cell {T : TypeId} {w : World} {g : Nat} {xs : List Int} (h : RowW T w g xs) (k : Nat) (hk : k < xs.length) : w.cell? ⟨g, k, none⟩ = some (.int .i64 (gi xs k)) := by
  obtain ⟨cur, hb, ht⟩ := h
  rw [hb.cell]
  have e : (cur.toList.take xs.length)[k]? = (xs.map (Value.int .i64))[k]? := by rw [ht]
  rw [List.getElem?_take, if_pos hk, Array.getElem?_toList] at e
  rw [e]; simp [gi, hk]
theorem RowW.frozen {T : TypeId} {w : World} {g : Nat} {xs : List Int} (h : RowW T w g xs) (k : Nat) : w.frozen? ⟨g, k, none⟩ = false := by obtain ⟨cur, hb, _⟩ := h; exact hb.frozen k
theorem RowW.lt {T : TypeId} {w : World} {g : Nat} {xs : List Int} (h : RowW T w g xs) : g < w.heap.size := by obtain ⟨cur, hb, _⟩ := h; exact hb.lt
theorem RowW.store {T : TypeId} {w : World} {g : Nat} {xs : List Int} (h : RowW T w g xs) (k : Nat) (x : Int) : RowW T (w.setCell ⟨g, k, none⟩ (.int .i64 x)) g (xs.set k x) := by
  obtain ⟨cur, hb, ht⟩ := h
  refine ⟨_, hb.store k _, ?_⟩
  rw [Array.toList_setIfInBounds, List.length_set, List.take_set, ht, List.map_set]
theorem RowW.below {T : TypeId} {w w' : World} {g : Nat} {xs : List Int} (h : RowW T w g xs) (hb : Below w.heap.size w w') : RowW T w' g xs := by
  obtain ⟨cur, h1, h2⟩ := h
  exact ⟨cur, h1.below hb h1.lt, h2⟩
theorem RowW.ints {T : TypeId} {w : World} {g : Nat} {xs : List Int} (h : RowW T w g xs) : IntsAt w (some ⟨g, 0, none⟩) xs := fun _ => ⟨g, 0, rfl, h.lt, fun k hk => by rw [Nat.zero_add]; exact h.cell k hk⟩
theorem OwnP.row {w : World} {base cap : Nat} {ao : Option Addr} {ps : List Prn} (h : OwnP w base ao cap ps) (h0 : 0 < ps.length) : ∃ g, ao = some ⟨g, 0, none⟩ ∧ base ≤ g ∧ RowW 68 w g (flatP ps) := by
  rcases h with ⟨hl, ⟨h1, h2⟩ | ⟨g, cp, cur, hv, hg, hb, hn, hm, hsz, ht⟩⟩ | ⟨rfl, -, -⟩
  · omega
  · simp only [Value.slice.injEq] at hv
    obtain ⟨rfl, -, -⟩ := hv
    exact ⟨g, rfl, hg, cur, hb, by rw [flatP_len]; exact ht⟩
  · simp at h0
theorem OwnP.later {W : World} {base cap : Nat} {ao : Option Addr} {ps : List Prn} (h : OwnP W base ao cap ps) (m : Later W) : OwnP m.w base ao cap ps := h.below m.below
theorem OwnP.mono' {w : World} {base base' cap : Nat} {ao : Option Addr} {ps : List Prn} (h : OwnP w base ao cap ps) (hb : base' ≤ base) : OwnP w base' ao cap ps := h.mono hb
theorem OwnP.xr {w : World} {base cap b : Nat} {ao : Option Addr} {ps : List Prn} (h : OwnP w base ao cap ps) (hb : XR ao (flatP ps) b) : base ≤ b ∧ b < w.heap.size := by
  obtain ⟨h0, off, e⟩ := hb
  obtain ⟨g, e2, hg, hR⟩ := h.row (by rw [flatP_len] at h0; omega)
  rw [e2] at e
  simp only [Option.some.injEq, Addr.mk.injEq] at e
  obtain ⟨rfl, -⟩ := e
  exact ⟨hg, hR.lt⟩
theorem OwnP.onlyX {w w' : World} {base cap : Nat} {ao : Option Addr} {ps : List Prn} {X : Nat → Prop} (h : OwnP w base ao cap ps) (k : Only X w.heap.size w w') (hX : ∀ b, X b → b < base) : OwnP w' base ao cap ps := by
  rcases h with ⟨hl, h1 | ⟨g, cp, cur, hv, hg, hb, hr⟩⟩ | h
  · exact .inl ⟨hl, .inl h1⟩
  · exact .inl ⟨hl, .inr ⟨g, cp, cur, hv, hg, by rw [k.block g (Array.getElem?_eq_some_iff.1 hb).1 (fun e => by have := hX g e; omega)]; exact hb, hr⟩⟩
  · exact .inr h




end Go.Proofs.YtgklgheaojoimaaDoor
