/-
  The walks of the laws' helpers on lists of prunes: eqPruneS, markPruneS, heldPruneS. For lists of at most 2^20 elements.
-/
import Derived.Test.YtfjljfjnooieoaaPruneR
import Derived.Test.YtfjljfjnooieoaaMarkX
namespace Go.Proofs.Ytfjljfjnooieoaa
open Go.RowKit

theorem eqPrune_same (x y z : Int) (w : World) :
    Calls Try.prog 42 #[.agg #[.int .i64 x, .int .i64 y, .int .i64 z], .agg #[.int .i64 x, .int .i64 y, .int .i64 z]] w fun e w' => e = .returned (.bool true) ∧ Below w.heap.size w w' := by
  go_enter Try.func42, Try.ntmps42
  go_wp2_with fail
  go_ret
  exact ⟨rfl, ((Below.refl _ _).alloc (Nat.le_refl _) _).alloc (by simp) _⟩

set_option maxHeartbeats 1000000 in
/-- Two lists that read alike, as rows of 3 n integers. -/
theorem eqPruneS_same (n : Nat) (xs : List Int) (hx : xs.length = n * 3) (ao bo : Option Addr) (c d : Nat) (w : World) (h1 : IntsAt w ao xs) (h2 : IntsAt w bo xs) (hn : n ≤ 1048576) :
    Calls Try.prog 19 #[.slice ao n c, .slice bo n d] w fun e w' => e = .returned (.bool true) ∧ Below w.heap.size w w' := by
  have hb : ((n : Int) != n) = false := by simp
  go_enter Try.func19, Try.ntmps19
  go_wp2_with fail
  go_loopw [5] (fun i wr => (∃ m : Later w, wr = m.w) ∧ ∃ k : Nat, k ≤ n ∧ i = .int .i64 k) (fun i _ => n - (intOf i).toNat)
  case atStart => exact ⟨⟨Later.refl _, rfl⟩, 0, by omega, rfl⟩
  case round =>
    obtain ⟨⟨m, rfl⟩, k, hk, rfl⟩ := hrel
    by_cases hlt : k < n
    · obtain ⟨b, off, rfl, hb1, hc⟩ := h1 (by omega)
      obtain ⟨b2, off2, rfl, hb2, hc2⟩ := h2 (by omega)
      have x0 := hc (k * 3) (by omega)
      have x1 := hc (k * 3 + 1) (by omega)
      have x2 := hc (k * 3 + 2) (by omega)
      have y0 := hc2 (k * 3) (by omega)
      have y1 := hc2 (k * 3 + 1) (by omega)
      have y2 := hc2 (k * 3 + 2) (by omega)
      rw [← Nat.add_assoc] at x1 x2 y1 y2
      have hE := fun m : Later w => eqPrune_same (gi xs (k * 3)) (gi xs (k * 3 + 1)) (gi xs (k * 3 + 2)) m.w
      clear hc hc2
      generalize gi xs (k * 3) = X at *
      generalize gi xs (k * 3 + 1) = Y at *
      generalize gi xs (k * 3 + 2) = Z at *
      have Hhx := Lib.hid hx
      clear hx
      go_wp2_with fail
      refine wp_region_later m rfl (by kernel_rfl) (by kernel_rfl) ?_
      repeat (go_big_quiet_step ((first | (go_at_call 42; with_reducible exact Calls.later _ (hE _)))))
      refine wpQuiet_nil ?_
      rintro _ ⟨m, rfl⟩
      go_wp2_with fail
      go_roundw
      case rel => exact ⟨⟨m, rfl⟩, k + 1, by omega, by go_num⟩
      case measure => simp [intOf]; omega
    · go_wp2_with fail
      go_ret
      exact ⟨rfl, m.below⟩

/-- Block g begins with the integers xs, nothing frozen. -/
def RowW (T : TypeId) (w : World) (g : Nat) (xs : List Int) : Prop := ∃ cur, Blk w g cur T ∧ cur.toList.take xs.length = xs.map (Value.int .i64)
theorem RowW.cell {T : TypeId} {w : World} {g : Nat} {xs : List Int} (h : RowW T w g xs) (k : Nat) (hk : k < xs.length) : w.cell? ⟨g, k, none⟩ = some (.int .i64 (gi xs k)) := by
  obtain ⟨cur, hb, ht⟩ := h
  rw [hb.cell]
  have e : (cur.toList.take xs.length)[k]? = (xs.map (Value.int .i64))[k]? := by rw [ht]
  rw [List.getElem?_take, if_pos hk, Array.getElem?_toList] at e
  rw [e]; simp [gi, hk]
theorem RowW.frozen {T : TypeId} {w : World} {g : Nat} {xs : List Int} (h : RowW T w g xs) (k : Nat) : w.frozen? ⟨g, k, none⟩ = false := by obtain ⟨cur, hb, _⟩ := h; exact hb.frozen k
theorem RowW.lt {T : TypeId} {w : World} {g : Nat} {xs : List Int} (h : RowW T w g xs) : g < w.heap.size := by obtain ⟨cur, hb, _⟩ := h; exact hb.lt
theorem RowW.store {T : TypeId} {w : World} {g : Nat} {xs : List Int} (h : RowW T w g xs) (k : Nat) (x : Int) : RowW T (w.setCell ⟨g, k, none⟩ (.int .i64 x)) g (xs.set k x) := by
  obtain ⟨cur, hb, ht⟩ := h
  refine ⟨_, hb.store k _, ?_⟩
  rw [Array.toList_setIfInBounds, List.length_set, List.take_set, ht, List.map_set]
theorem RowW.below {T : TypeId} {w w' : World} {g : Nat} {xs : List Int} (h : RowW T w g xs) (hb : Below w.heap.size w w') : RowW T w' g xs := by
  obtain ⟨cur, h1, h2⟩ := h
  exact ⟨cur, h1.below hb h1.lt, h2⟩
theorem RowW.ints {T : TypeId} {w : World} {g : Nat} {xs : List Int} (h : RowW T w g xs) : IntsAt w (some ⟨g, 0, none⟩) xs := fun _ => ⟨g, 0, rfl, h.lt, fun k hk => by rw [Nat.zero_add]; exact h.cell k hk⟩
theorem OwnP.row {w : World} {base cap : Nat} {ao : Option Addr} {ps : List Prn} (h : OwnP w base ao cap ps) (h0 : 0 < ps.length) : ∃ g, ao = some ⟨g, 0, none⟩ ∧ base ≤ g ∧ RowW 56 w g (flatP ps) := by
  rcases h with ⟨hl, ⟨h1, h2⟩ | ⟨g, cp, cur, hv, hg, hb, hn, hm, hsz, ht⟩⟩ | ⟨rfl, -, -⟩
  · omega
  · simp only [Value.slice.injEq] at hv
    obtain ⟨rfl, -, -⟩ := hv
    exact ⟨g, rfl, hg, cur, hb, by rw [flatP_len]; exact ht⟩
  · simp at h0
theorem OwnP.later {W : World} {base cap : Nat} {ao : Option Addr} {ps : List Prn} (h : OwnP W base ao cap ps) (m : Later W) : OwnP m.w base ao cap ps := h.below m.below
theorem OwnP.mono' {w : World} {base base' cap : Nat} {ao : Option Addr} {ps : List Prn} (h : OwnP w base ao cap ps) (hb : base' ≤ base) : OwnP w base' ao cap ps := h.mono hb
theorem OwnP.xr {w : World} {base cap b : Nat} {ao : Option Addr} {ps : List Prn} (h : OwnP w base ao cap ps) (hb : XR ao (flatP ps) b) : base ≤ b ∧ b < w.heap.size := by
  obtain ⟨h0, off, e⟩ := hb
  obtain ⟨g, e2, hg, hR⟩ := h.row (by rw [flatP_len] at h0; omega)
  rw [e2] at e
  simp only [Option.some.injEq, Addr.mk.injEq] at e
  obtain ⟨rfl, -⟩ := e
  exact ⟨hg, hR.lt⟩
theorem OwnP.onlyX {w w' : World} {base cap : Nat} {ao : Option Addr} {ps : List Prn} {X : Nat → Prop} (h : OwnP w base ao cap ps) (k : Only X w.heap.size w w') (hX : ∀ b, X b → b < base) : OwnP w' base ao cap ps := by
  rcases h with ⟨hl, h1 | ⟨g, cp, cur, hv, hg, hb, hr⟩⟩ | h
  · exact .inl ⟨hl, .inl h1⟩
  · exact .inl ⟨hl, .inr ⟨g, cp, cur, hv, hg, by rw [k.block g (Array.getElem?_eq_some_iff.1 hb).1 (fun e => by have := hX g e; omega)]; exact hb, hr⟩⟩
  · exact .inr h

set_option maxHeartbeats 1000000 in
theorem markPruneRow_any (T : TypeId) (g cap n : Nat) (xs : List Int) (w : World) (h : RowW T w g xs) (hx : xs.length = n * 3) (hn : n ≤ 1048576) :
    Calls Try.prog 20 #[.slice (some ⟨g, 0, none⟩) n cap, .int .i64 1] w fun e w' => e = .returned (.int .i64 (1 + (n * 3 : Nat))) ∧ RowW T w' g (marksF 1 (n * 3)) ∧ Only (fun b => b = g) w.heap.size w w' := by
  have Hh := Lib.hid h
  clear h
  have Hhx := Lib.hid hx
  clear hx
  go_enter Try.func20, Try.ntmps20
  go_wp2_with fail
  go_loopw [1, 5] (fun c i wr => ∃ k : Nat, k ≤ n ∧ i = .int .i64 k ∧ c = .int .i64 (1 + (k * 3 : Nat)) ∧ Only (fun b => b = g) w.heap.size w wr ∧ ∃ ys, RowW T wr g ys ∧ ys.length = n * 3 ∧ ∀ j, j < k * 3 → gi ys j = 1 + (j : Int)) (fun _ i _ => n - (intOf i).toNat)
  case atStart => exact ⟨0, by omega, rfl, by go_num, Only.refl _ _ _, xs, Hh.out, Hhx.out, fun j h => by omega⟩
  case round =>
    obtain ⟨k, hk, rfl, rfl, hO, ys, hR, hl, hP⟩ := hrel
    have HhO := Lib.hid hO
    clear hO
    have Hhl := Lib.hid hl
    clear hl
    have HhP := Lib.hid hP
    clear hP
    by_cases hlt : k < n
    · have z0 := hR.cell (k * 3) (by have := Hhl.out; omega)
      have z1 := hR.cell (k * 3 + 1) (by have := Hhl.out; omega)
      have z2 := hR.cell (k * 3 + 2) (by have := Hhl.out; omega)
      have z3 := hR.frozen (k * 3)
      have z4 := hR.frozen (k * 3 + 1)
      have z5 := hR.frozen (k * 3 + 2)
      have z6 := hR.lt
      have HhR := Lib.hid hR
      clear hR
      go_wp2_with fail
      go_roundw
      case rel =>
        refine ⟨k + 1, by omega, by go_num, by go_num, ((HhO.out.setCell (p := ⟨g, k * 3, none⟩) (.inl rfl) _).setCell (p := ⟨g, k * 3 + 1, none⟩) (.inl rfl) _).setCell (p := ⟨g, k * 3 + 2, none⟩) (.inl rfl) _, _, ((HhR.out.store (k * 3) _).store (k * 3 + 1) _).store (k * 3 + 2) _, by simpa using Hhl.out, fun j hj => ?_⟩
        have hyl := Hhl.out
        by_cases e0 : j = k * 3 + 2
        · subst e0
          have : k * 3 + 2 < ys.length := by omega
          simp [gi, this]; omega
        · by_cases e1 : j = k * 3 + 1
          · subst e1
            have : k * 3 + 1 < ys.length := by omega
            simp [gi, this]; omega
          · by_cases e2 : j = k * 3
            · subst e2
              have : k * 3 < ys.length := by omega
              simp [gi, this]
            · have f0 : k * 3 + 2 ≠ j := fun h => e0 h.symm
              have f1 : k * 3 + 1 ≠ j := fun h => e1 h.symm
              have f2 : k * 3 ≠ j := fun h => e2 h.symm
              rw [← HhP.out j (by omega)]; simp [gi, f0, f1, f2]
      case measure => simp [intOf]; omega
    · obtain rfl : k = n := by omega
      have HhR := Lib.hid hR
      clear hR
      go_wp2_with fail
      go_ret
      have e : ys = marksF 1 (k * 3) := by
        refine gi_ext (by rw [marksF_len]; exact Hhl.out) fun j hj => ?_
        have hj' : j < k * 3 := by rw [← Hhl.out]; exact hj
        rw [HhP.out j hj', marksF_at hj']
      exact ⟨rfl, e ▸ HhR.out, HhO.out⟩

theorem markPruneNil_any (ao : Option Addr) (cap : Nat) (w : World) : Calls Try.prog 20 #[.slice ao 0 cap, .int .i64 1] w fun e w' => e = .returned (.int .i64 1) ∧ w = w' := by
  go_enter Try.func20, Try.ntmps20
  go_wp2_with fail
  go_loopw [1, 5] (fun c i wr => wr = w ∧ c = .int .i64 1 ∧ i = .int .i64 0) (fun _ _ _ => 0)
  case atStart => exact ⟨rfl, rfl, rfl⟩
  case round =>
    obtain ⟨rfl, rfl, rfl⟩ := hrel
    go_wp2_with fail
    go_ret
    exact ⟨rfl, rfl⟩
theorem markPruneE_any (base cap : Nat) (ao : Option Addr) (ps : List Prn) (w : World) (h : OwnP w base ao cap ps) (hn : ps.length ≤ 1048576) :
    Calls Try.prog 20 #[.slice ao ps.length cap, .int .i64 1] w fun e w' => e = .returned (.int .i64 (1 + (ps.length * 3 : Nat))) ∧ IntsAt w' ao (marksF 1 (ps.length * 3)) ∧ Only (XR ao (flatP ps)) w.heap.size w w' := by
  by_cases h0 : 0 < ps.length
  · obtain ⟨g, rfl, hg, hR⟩ := h.row h0
    refine (markPruneRow_any 56 g cap ps.length (flatP ps) w hR (flatP_len ps) hn).mono fun e w' ⟨h1, h2, h3⟩ => ⟨h1, h2.ints, h3.monoX fun b e => ?_⟩
    subst e; exact ⟨by rw [flatP_len]; omega, 0, rfl⟩
  · obtain rfl : ps = [] := List.eq_nil_of_length_eq_zero (by omega)
    refine (markPruneNil_any ao cap w).mono fun e w' ⟨h1, h2⟩ => ⟨by rw [h1]; simp, fun h => absurd h (by simp [marksF]), by rw [← h2]; exact Only.refl _ _ _⟩


end Go.Proofs.Ytfjljfjnooieoaa
