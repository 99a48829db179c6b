/-
  AddEdge of the reference at two vertices of a graph that is right. No further conditions.
  The drawing of inputs: l1New, l1Byte, l1Below, l1Once, l1PickInt, l1Pick. For texts of at most 2^20 bytes and limits of at most 256.
  The drawing of graphs: l1New, l2Random. For texts of at most 2^20 bytes.
  What the great laws share: the text's length, and how their argument is opened. No conditions.
-/
import Derived.Test.YtjikmjhpmkakoaaGreatDoorPkCardCographs01
import Derived.Test.YtjikmjhpmkakoaaGreatDoorPkCardCographs07
import Derived.Deep.RegionWith
namespace Go.Proofs.YtjikmjhpmkakoaaGreatDoor
open Go.RowKit

/-- AddEdge of the reference at two vertices of a graph whose rows lie in a row of their own. -/
theorem specAddF_any (rs : List Int) (a b gb cp N : Nat) (w : World) (hN : rs.length = N) (hR : RowAt w gb cp rs) (g : VG rs) (ha : a < N) (hb : b < N) (hab : a ≠ b) :
    Calls Tryz.prog 65 #[.agg #[.int .i64 N, .slice (some ⟨gb, 0, none⟩) N cp], .int .i64 a, .int .i64 b] w fun e w' => ∃ g1 cap ok, e = .returned (.tuple #[.agg #[.int .i64 N, .slice (some ⟨g1, 0, none⟩) N cap], .bool ok]) ∧ Below w.heap.size w w' ∧ w.heap.size ≤ g1 ∧ RowAt w' g1 cap (addE rs a b) := by
  subst hN
  have h7 := g.le
  have hA := specAddEdge_any rs.length rs a b _ cp w hR.ints (by omega) (by omega)
  have hV : addV rs.length rs a b = addE rs a b := by
    unfold addV; rw [if_pos (pair_ok g ha hb hab), Int.toNat_natCast, Int.toNat_natCast]
  rw [hV] at hA
  exact hA.mono fun e w' ⟨g1, cap, h⟩ => ⟨g1, cap, _, h⟩

/-- The last eight bits. -/
def b255 (x : Int) : Nat := (bits .and .i64 x 255).toNat
theorem and255 (x : Int) : ∃ u : Nat, u ≤ 255 ∧ bits .and .i64 x 255 = u := by
  have e : (BitVec.ofInt 64 255).toNat = 255 := by decide
  refine ⟨(BitVec.ofInt 64 x &&& BitVec.ofInt 64 255).toNat, ?_, ?_⟩
  · rw [BitVec.toNat_and, e]; exact Nat.and_le_right
  · show IntKind.i64.wrap ((BitVec.ofInt 64 x &&& BitVec.ofInt 64 255).toNat : Nat) = _
    have : (BitVec.ofInt 64 x &&& BitVec.ofInt 64 255).toNat ≤ 255 := by rw [BitVec.toNat_and, e]; exact Nat.and_le_right
    exact wrap_nat _ (by omega)
theorem b255_le (x : Int) : b255 x ≤ 255 := by
  obtain ⟨u, h, e⟩ := and255 x
  unfold b255; rw [e]; simpa using h
theorem b255_fold (x : Int) : bits .and .i64 x 255 = (b255 x : Int) := by
  obtain ⟨u, h, e⟩ := and255 x
  unfold b255; rw [e]; simp

/-- The bytes behind a slice, in a block below B. -/
def BytesU (B : Nat) (w : World) (ao : Option Addr) (n : Nat) : Prop :=
  0 < n → ∃ b off, ao = some ⟨b, off, none⟩ ∧ b < B ∧ b < w.heap.size ∧ ∀ k, k < n → ∃ u : Nat, u ≤ 255 ∧ w.cell? ⟨b, off + k, none⟩ = some (.int .u8 (u : Int))
theorem BytesU.only {B : Nat} {X : Nat → Prop} {w w' : World} {ao : Option Addr} {n : Nat} (h : BytesU B w ao n) (hb : Only X w.heap.size w w') (hX : ∀ b, b < B → ¬X b) : BytesU B w' ao n := fun h0 => by
  obtain ⟨b, off, h1, h2, h3, h4⟩ := h h0
  exact ⟨b, off, h1, h2, Nat.lt_of_lt_of_le h3 hb.size, fun k hk => by rw [hb.cell (p := ⟨b, off + k, none⟩) h3 (hX b h2)]; exact h4 k hk⟩
theorem BytesU.mono {B B' : Nat} {w : World} {ao : Option Addr} {n : Nat} (h : BytesU B w ao n) (hB : B ≤ B') : BytesU B' w ao n := fun h0 => by
  obtain ⟨b, off, h1, h2, h3⟩ := h h0
  exact ⟨b, off, h1, by omega, h3⟩

/-- The cursor in block cb, over n bytes. -/
structure CurAt (w : World) (cb : Nat) (bo : Option Addr) (n c : Nat) : Prop where
  box : ∃ (i : Nat) (h : Int), i ≤ n ∧ Blk w cb #[.slice bo n c, .int .i64 i, .int .i64 h] 102
  bytes : BytesU cb w bo n
  len : n ≤ 1048576
theorem CurAt.lt {w : World} {cb n c : Nat} {bo : Option Addr} (h : CurAt w cb bo n c) : cb < w.heap.size := by obtain ⟨i, x, -, k⟩ := h.box; exact k.lt
theorem CurAt.only {X : Nat → Prop} {w w' : World} {cb n c : Nat} {bo : Option Addr} (h : CurAt w cb bo n c) (hb : Only X w.heap.size w w') (hX : ∀ b, b ≤ cb → ¬X b) : CurAt w' cb bo n c := by
  obtain ⟨i, x, h1, k⟩ := h.box
  exact ⟨⟨i, x, h1, hb.blk k k.lt (hX cb (Nat.le_refl _))⟩, h.bytes.only hb fun b hb => hX b (Nat.le_of_lt hb), h.len⟩
theorem CurAt.below {w w' : World} {cb n c : Nat} {bo : Option Addr} (h : CurAt w cb bo n c) (hb : Below w.heap.size w w') : CurAt w' cb bo n c := h.only (Only.of (X := fun _ => False) hb) fun _ _ h => h
/-- What a call leaves that draws: nothing but the cursor has turned. -/
structure DrewC (cb : Nat) (bo : Option Addr) (n c : Nat) (w w' : World) : Prop where
  only : Only (fun b => b = cb) w.heap.size w w'
  cur : CurAt w' cb bo n c
theorem DrewC.trans {cb n c : Nat} {bo : Option Addr} {w w1 w2 : World} (h : DrewC cb bo n c w w1) (k : DrewC cb bo n c w1 w2) : DrewC cb bo n c w w2 := ⟨h.only.trans (k.only.mono h.only.size fun _ _ h => h), k.cur⟩

/-- A number below lim has been drawn. -/
def RetN (cb : Nat) (bo : Option Addr) (n c lim : Nat) (w : World) (e : Ending) (w' : World) : Prop := ∃ u : Nat, u < lim ∧ e = .returned (.int .i64 (u : Int)) ∧ DrewC cb bo n c w w'

set_option maxRecDepth 100000 in
set_option maxHeartbeats 1000000 in
theorem l1Byte_any (cb n c : Nat) (bo : Option Addr) (w : World) (h : CurAt w cb bo n c) :
    Calls Tryz.prog 144 #[.pointer (some ⟨cb, 0, none⟩)] w (RetN cb bo n c 256 w) := by
  obtain ⟨i, x, hi, k0⟩ := h.box
  have hb := h.bytes
  have hn := h.len
  have c0 := k0.cell 0
  have c1 := k0.cell 1
  have c2 := k0.cell 2
  have f0 := k0.frozen 0
  have f1 := k0.frozen 1
  have f2 := k0.frozen 2
  have b0 := k0.lt
  simp at c0 c1 c2
  have hF := b255_fold
  go_enter Tryz.func144, Tryz.ntmps144
  go_wp2_with fail
  generalize wrap64 (wrap64 (x * 6364136223846793005) + 1442695040888963407) = x2 at *
  have k1 : Blk (w.setCell ⟨cb, 2, none⟩ (.int .i64 x2)) cb #[.slice bo n c, .int .i64 i, .int .i64 x2] 102 := by simpa using k0.store 2 (.int .i64 x2)
  have hO1 : Only (fun b => b = cb) w.heap.size w (w.setCell ⟨cb, 2, none⟩ (.int .i64 x2)) := (Only.refl (fun b => b = cb) _ _).setCell (p := ⟨cb, 2, none⟩) (.inl rfl) _
  have hb1 := hb.only hO1 (fun b hb e => by have e2 : b = cb := e; omega)
  generalize World.setCell _ _ _ = W1 at *
  clear c0 c1 c2 f0 f1 f2 k0 hb h
  have c0 := k1.cell 0
  have c1 := k1.cell 1
  have c2 := k1.cell 2
  have f1 := k1.frozen 1
  have b1 := k1.lt
  simp at c0 c1 c2
  have HhO1 := Lib.hid hO1
  clear hO1
  have Hk1 := Lib.hid k1
  clear k1
  have Hhb1 := Lib.hid hb1
  clear hb1
  obtain ⟨m, hm0⟩ : ∃ m : Later W1, m.w = W1 := ⟨Later.refl _, rfl⟩
  refine (fun h => hm0 ▸ h) ?_
  clear hm0
  refine wp_region_later m rfl (by kernel_rfl) (by kernel_rfl) ?_
  repeat (go_big_quiet_step (fail))
  refine wpQuiet_nil ?_
  rintro _ ⟨m, rfl⟩
  go_wp2_with fail
  generalize hub : b255 _ = u
  have hu : u ≤ 255 := hub ▸ b255_le _
  clear hub
  by_cases hlt : i < n
  · obtain ⟨b, off, rfl, hbl, hbW, hbc⟩ := Hhb1.out (by omega)
    obtain ⟨v, hv, x0⟩ := hbc i hlt
    clear hbc
    refine wp_region_later m rfl (by kernel_rfl) (by kernel_rfl) ?_
    repeat (go_big_quiet_step (fail))
    refine wpQuiet_nil ?_
    rintro _ ⟨m, rfl⟩
    go_wp2_with fail
    refine wp_region_later m rfl (by kernel_rfl) (by kernel_rfl) ?_
    repeat (go_big_quiet_step (fail))
    refine wpQuiet_nil ?_
    rintro _ ⟨m, rfl⟩
    go_wp2_with fail
    generalize hub : b255 _ = u2
    have hu2 : u2 ≤ 255 := hub ▸ b255_le _
    clear hub
    go_ret
    have hk := (Hk1.out.later m).store 1 (.int .i64 ((i : Int) + 1))
    have hS : Only (fun b => b = cb) W1.heap.size W1 (m.w.setCell ⟨cb, 1, none⟩ (.int .i64 ((i : Int) + 1))) := (Only.of (X := fun b => b = cb) m.below).setCell (p := ⟨cb, 1, none⟩) (.inl rfl) _
    exact ⟨u2, by omega, rfl, ⟨HhO1.out.trans (hS.mono HhO1.out.size fun _ _ h => h), ⟨⟨i + 1, x2, by omega, by simpa using hk⟩, Hhb1.out.only hS (fun b hb e => by have e2 : b = cb := e; omega), hn⟩⟩⟩
  · refine wp_region_later m rfl (by kernel_rfl) (by kernel_rfl) ?_
    repeat (go_big_quiet_step (fail))
    refine wpQuiet_nil ?_
    rintro _ ⟨m, rfl⟩
    go_wp2_with fail
    go_ret
    exact ⟨u, by omega, rfl, ⟨HhO1.out.more m.below HhO1.out.size, ⟨⟨i, x2, hi, Hk1.out.later m⟩, Hhb1.out.only (Only.of (X := fun _ => False) m.below) (fun _ _ h => h), hn⟩⟩⟩

set_option maxHeartbeats 400000 in
theorem l1Below_any (k cb n c : Nat) (bo : Option Addr) (w : World) (h : CurAt w cb bo n c) (h1 : 1 ≤ k) (h2 : k ≤ 256) :
    Calls Tryz.prog 110 #[.pointer (some ⟨cb, 0, none⟩), .int .i64 k] w (RetN cb bo n c k w) := by
  go_enter Tryz.func110, Tryz.ntmps110
  go_wp2_with (first | (go_at_call 144; refine (l1Byte_any cb n c bo _ h).mono ?_; rintro e w1 ⟨u, hu, rfl, hD⟩))
  go_ret
  exact ⟨u % k, Nat.mod_lt _ (by omega), by simp, hD⟩

/-- A coin has been thrown. -/
def RetCoin (cb : Nat) (bo : Option Addr) (n c : Nat) (w : World) (e : Ending) (w' : World) : Prop := ∃ b : Bool, e = .returned (.bool b) ∧ DrewC cb bo n c w w'
set_option maxHeartbeats 400000 in
theorem l1Once_any (k cb n c : Nat) (bo : Option Addr) (w : World) (h : CurAt w cb bo n c) (h1 : 1 ≤ k) (h2 : k ≤ 256) :
    Calls Tryz.prog 95 #[.pointer (some ⟨cb, 0, none⟩), .int .i64 k] w (RetCoin cb bo n c w) := by
  go_enter Tryz.func95, Tryz.ntmps95
  go_wp2_with (first | (go_at_call 110; refine (l1Below_any k cb n c bo _ h h1 h2).mono ?_; rintro e w1 ⟨u, hu, rfl, hD⟩))
  go_ret
  exact ⟨_, rfl, hD⟩

/-- A number out of a list has been drawn. -/
def RetP1 (cb : Nat) (bo : Option Addr) (n c : Nat) (xs : List Int) (w : World) (e : Ending) (w' : World) : Prop := ∃ j : Nat, j < xs.length ∧ e = .returned (.int .i64 (gi xs j)) ∧ DrewC cb bo n c w w'
set_option maxHeartbeats 400000 in
theorem l1PickInt_any (xs : List Int) (lb lc cb n c : Nat) (bo : Option Addr) (w : World) (h : CurAt w cb bo n c) (h1 : 1 ≤ xs.length) (h2 : xs.length ≤ 256) (hl : lb ≠ cb) (hlt : lb < w.heap.size) (hx : ∀ j, j < xs.length → w.cell? ⟨lb, j, none⟩ = some (.int .i64 (gi xs j))) :
    Calls Tryz.prog 111 #[.pointer (some ⟨cb, 0, none⟩), .slice (some ⟨lb, 0, none⟩) xs.length lc] w (RetP1 cb bo n c xs w) := by
  go_enter Tryz.func111, Tryz.ntmps111
  go_wp2_with (first | (go_at_call 110; refine (l1Below_any xs.length cb n c bo _ h h1 h2).mono ?_; rintro e w1 ⟨u, hu, rfl, hD⟩; have z := (hD.only.cell (p := ⟨lb, u, none⟩) hlt hl).trans (hx u hu)))
  go_ret
  exact ⟨u, hu, rfl, hD⟩

/-- A word out of a list has been drawn. -/
def RetW (cb : Nat) (bo : Option Addr) (n c : Nat) (xs : List ByteArray) (w : World) (e : Ending) (w' : World) : Prop := ∃ x, x ∈ xs ∧ e = .returned (.string x) ∧ DrewC cb bo n c w w'
set_option maxHeartbeats 400000 in
theorem l1Pick_any (xs : List ByteArray) (lb lc cb n c : Nat) (bo : Option Addr) (w : World) (h : CurAt w cb bo n c) (h1 : 1 ≤ xs.length) (h2 : xs.length ≤ 256) (hl : lb ≠ cb) (hlt : lb < w.heap.size) (hx : ∀ j (hj : j < xs.length), w.cell? ⟨lb, j, none⟩ = some (.string xs[j])) :
    Calls Tryz.prog 96 #[.pointer (some ⟨cb, 0, none⟩), .slice (some ⟨lb, 0, none⟩) xs.length lc] w (RetW cb bo n c xs w) := by
  go_enter Tryz.func96, Tryz.ntmps96
  go_wp2_with (first | (go_at_call 110; refine (l1Below_any xs.length cb n c bo _ h h1 h2).mono ?_; rintro e w1 ⟨u, hu, rfl, hD⟩; have z := (hD.only.cell (p := ⟨lb, u, none⟩) hlt hl).trans (hx u hu)))
  go_ret
  exact ⟨_, List.getElem_mem hu, rfl, hD⟩

/-- The cursor is made. -/
def RetNew (bo : Option Addr) (n c : Nat) (w : World) (e : Ending) (w' : World) : Prop := ∃ cb, e = .returned (.pointer (some ⟨cb, 0, none⟩)) ∧ Below w.heap.size w w' ∧ w.heap.size ≤ cb ∧ CurAt w' cb bo n c
set_option maxHeartbeats 400000 in
theorem l1New_any (n c : Nat) (bo : Option Addr) (w : World) (h : BytesU w.heap.size w bo n) (hn : n ≤ 1048576) :
    Calls Tryz.prog 44 #[.slice bo n c] w (RetNew bo n c w) := by
  go_enter Tryz.func44, Tryz.ntmps44
  go_wp2_with fail
  go_loopw [3, 4] (fun x i wr => wr = w ∧ ∃ (k : Nat) (y : Int), k ≤ n ∧ i = .int .i64 k ∧ x = .int .i64 y) (fun _ i _ => n - (intOf i).toNat)
  case atStart => exact ⟨rfl, 0, _, by omega, rfl, rfl⟩
  case round =>
    obtain ⟨rfl, k, y, hk, rfl, rfl⟩ := hrel
    have hend : ∀ z : Int, RetNew bo n c wr (.returned (.pointer (some ⟨wr.heap.size, 0, none⟩))) (wr.alloc (.cells #[.slice bo n c, .int .i64 0, .int .i64 z] 102)) := fun z => by
      obtain ⟨hB, -, k0⟩ := alloc1 (w := wr) (c0 := #[.slice bo n c, .int .i64 0, .int .i64 z]) (T0 := 102) rfl
      exact ⟨_, rfl, hB, Nat.le_refl _, ⟨0, z, by omega, k0⟩, h.only (Only.of (X := fun _ => False) hB) fun _ _ h => h, hn⟩
    have Hend := Lib.hid hend
    clear hend
    by_cases hlt : k < n ∧ k < 4000
    · obtain ⟨hl1, hl2⟩ := hlt
      obtain ⟨b, off, rfl, -, hbW, hbc⟩ := h (by omega)
      obtain ⟨v, hv, x0⟩ := hbc k hl1
      clear hbc
      have h40 : decide ((k : Int) < 4000) = true := decide_eq_true (by omega)
      go_wp2_with fail
      go_roundw
      case rel => exact ⟨by trivial, k + 1, _, by omega, by go_num, rfl⟩
      case measure => simp [intOf]; omega
    · by_cases hl1 : k < n
      · have h40 : decide ((k : Int) < 4000) = false := decide_eq_false (by omega)
        go_wp2_with fail
        go_ret
        exact Hend.out _
      · obtain rfl : k = n := by omega
        go_wp2_with fail
        go_ret
        exact Hend.out _

theorem zero_VG {N : Nat} (h1 : 1 ≤ N) (h7 : N ≤ 7) : VG (List.replicate N 0) := by
  have hg : ∀ v, gn (List.replicate N 0) v = 0 := fun v => by
    unfold gn gi
    by_cases hv : v < N <;> simp [hv]
  refine ⟨by simpa using h1, by simpa using h7, fun v hv => ?_, fun v hv => ?_, fun v hv => ?_, fun v hv w hw => ?_⟩
  · rw [hg]; simp at hv; simp [gi, hv]
  · rw [hg]; exact Nat.two_pow_pos _
  · rw [hg, Nat.zero_testBit]
  · rw [hg, hg, Nat.zero_testBit, Nat.zero_testBit]
theorem RowAt.onlyB {X : Nat → Prop} {w w' : World} {g cap : Nat} {xs : List Int} (h : RowAt w g cap xs) (hO : Only X w.heap.size w w') (hx : ¬X g) : RowAt w' g cap xs := by
  obtain ⟨cur, hb, hr⟩ := h
  exact ⟨cur, hO.blk hb hb.lt hx, hr⟩

/-- A graph in the making in box y: its rows f in a row gb of their own, none of them below lo; the cursor in cb. -/
structure DrawG (W2 wr : World) (lo y cb : Nat) (bo : Option Addr) (n c N gb cp : Nat) (f : List Int) : Prop where
  only : Only (fun b => b = cb ∨ b = y) W2.heap.size W2 wr
  cur : CurAt wr cb bo n c
  cy : cb < lo ∧ lo ≤ y
  ne : gb ≠ y
  lo : lo ≤ gb
  box : Blk wr y #[.int .i64 N, .slice (some ⟨gb, 0, none⟩) N cp] 26
  row : RowAt wr gb cp f
  vg : VG f
  len : f.length = N
theorem DrawG.drew {W2 wr w1 : World} {lo y cb n c N gb cp : Nat} {bo : Option Addr} {f : List Int} (h : DrawG W2 wr lo y cb bo n c N gb cp f) (k : DrewC cb bo n c wr w1) : DrawG W2 w1 lo y cb bo n c N gb cp f :=
  ⟨h.only.trans (k.only.mono h.only.size fun b _ e => .inl e), k.cur, h.cy, h.ne, h.lo, k.only.blk h.box h.box.lt (fun e => by have := h.cy; have e2 : y = cb := e; omega), h.row.onlyB k.only (fun e => by have := h.cy; have := h.lo; have e2 : gb = cb := e; omega), h.vg, h.len⟩
theorem DrawG.edge {W2 wr w5 : World} {lo y cb n c N gb cp g5 cp5 a b : Nat} {bo : Option Addr} {f : List Int} (h : DrawG W2 wr lo y cb bo n c N gb cp f) (hB : Below wr.heap.size wr w5) (hg : wr.heap.size ≤ g5) (hR : RowAt w5 g5 cp5 (addE f a b)) (hab : a ≠ b) :
    DrawG W2 ((w5.setCell ⟨y, 0, none⟩ (.int .i64 N)).setCell ⟨y, 1, none⟩ (.slice (some ⟨g5, 0, none⟩) N cp5)) lo y cb bo n c N g5 cp5 (addE f a b) := by
  have hy := h.box.lt
  have hcy := h.cy
  have hO : Only (fun b => b = cb ∨ b = y) W2.heap.size W2 ((w5.setCell ⟨y, 0, none⟩ (.int .i64 N)).setCell ⟨y, 1, none⟩ (.slice (some ⟨g5, 0, none⟩) N cp5)) :=
    ((h.only.more hB h.only.size).setCell (p := ⟨y, 0, none⟩) (.inl (.inr rfl)) _).setCell (p := ⟨y, 1, none⟩) (.inl (.inr rfl)) _
  have hOw : Only (fun b => b = y) wr.heap.size wr ((w5.setCell ⟨y, 0, none⟩ (.int .i64 N)).setCell ⟨y, 1, none⟩ (.slice (some ⟨g5, 0, none⟩) N cp5)) :=
    ((Only.of (X := fun b => b = y) hB).setCell (p := ⟨y, 0, none⟩) (.inl rfl) _).setCell (p := ⟨y, 1, none⟩) (.inl rfl) _
  refine ⟨hO, h.cur.only hOw (fun b hb e => by have e2 : b = y := e; omega), h.cy, by omega, by omega, ?_, (hR.otherCell (by simp; omega)).otherCell (by simp; omega), addE_VG h.vg hab, by rw [addE_len]; exact h.len⟩
  have := ((h.box.below hB hy).store 0 (.int .i64 N)).store 1 (.slice (some ⟨g5, 0, none⟩) N cp5)
  simpa using this

/-- A graph that is right has been drawn. -/
def RetVG (cb : Nat) (bo : Option Addr) (n c : Nat) (w : World) (e : Ending) (w' : World) : Prop :=
  ∃ (f : List Int) (g cap : Nat), (VG f ∧ f.length ≤ 6) ∧ e = .returned (.agg #[.int .i64 f.length, .slice (some ⟨g, 0, none⟩) f.length cap]) ∧ w.heap.size ≤ g ∧ RowAt w' g cap f ∧ DrewC cb bo n c w w'

set_option maxRecDepth 100000 in
set_option maxHeartbeats 2000000 in
theorem l2Random_any (N : Nat) (odd : Int) (cb n c : Nat) (bo : Option Addr) (w : World) (h : CurAt w cb bo n c) (h1 : 1 ≤ N) (h6 : N ≤ 6) :
    Calls Tryz.prog 164 #[.pointer (some ⟨cb, 0, none⟩), .int .i64 N, .int .i64 odd] w (RetVG cb bo n c w) := by
  have h7 : N ≤ 7 := by omega
  have Hh6 := Lib.hid h6
  clear h6
  have hmk := run_make_ints N (by omega)
  have hcw := h.lt
  go_enter Tryz.func164, Tryz.ntmps164
  go_wp2_with fail
  clear hmk
  generalize hW : World.alloc _ _ = W2
  obtain ⟨hB, hs, k0, kY, kG⟩ := alloc3 hW
  have hR : RowAt W2 (w.heap.size + 1) N (List.replicate N 0) := by
    have := RowAt.of (w := W2) (b := w.heap.size + 1) (xs := List.replicate N 0) kY (by simp; omega)
    simpa using this
  have hD : DrawG W2 W2 (w.heap.size + 1) (w.heap.size + 1 + 1) cb bo n c N (w.heap.size + 1) N (List.replicate N 0) :=
    ⟨Only.refl _ _ _, h.below hB, ⟨by omega, by omega⟩, by omega, by omega, kG, hR, zero_VG h1 h7, by simp⟩
  clear hW kY kG hR
  have hyy : ¬w.heap.size = w.heap.size + 1 + 1 := by omega
  have HhB := Lib.hid hB
  clear hB
  have Hk0 := Lib.hid k0
  clear k0
  have HhD := Lib.hid hD
  clear hD
  have Hhs := Lib.hid hs
  clear hs
  have Hhyy := Lib.hid hyy
  clear hyy
  generalize w.heap.size + 1 + 1 = y at *
  go_wp2_with fail
  go_loopw [8] (fun i wr => ∃ (v gb cp : Nat) (f : List Int), v ≤ N ∧ i = .int .i64 v ∧ DrawG W2 wr (w.heap.size + 1) y cb bo n c N gb cp f) (fun i _ => N - (intOf i).toNat)
  case atStart => exact ⟨0, _, _, _, by omega, rfl, HhD.out⟩
  case round =>
    clear HhD
    obtain ⟨v, gb, cp, f, hv, rfl, hD⟩ := hrel
    by_cases hlt : v < N
    · have HhD := Lib.hid hD
      clear hD
      go_wp2_with fail
      go_loopw [9] (fun i wr => ∃ (u gb cp : Nat) (f : List Int), v < u ∧ u ≤ N ∧ i = .int .i64 u ∧ DrawG W2 wr (w.heap.size + 1) y cb bo n c N gb cp f) (fun i _ => N - (intOf i).toNat)
      case atStart => exact ⟨v + 1, _, _, _, by omega, by omega, by go_num, HhD.out⟩
      case round =>
        clear HhD
        obtain ⟨u, gb, cp, f, hvu, hu, rfl, hD⟩ := hrel
        by_cases hut : u < N
        · have hC := l1Below_any 10 cb n c bo wr hD.cur (by omega) (by omega)
          have HhD := Lib.hid hD
          clear hD
          go_wp2_with fail
          refine hC.mono ?_
          rintro e w1 ⟨r, hr, rfl, hDr⟩
          have hD1 := HhD.out.drew hDr
          clear hC hDr HhD
          by_cases ho : (r : Int) < odd
          · have x0 := hD1.box.cell 0
            have x1 := hD1.box.cell 1
            have ozr := hD1.box.lt
            simp at x0 x1
            have hA := specAddF_any f v u gb cp N w1 hD1.len hD1.row hD1.vg hlt hut (by omega)
            have HhD1 := Lib.hid hD1
            clear hD1
            have HhA := Lib.hid hA
            clear hA
            go_wp2_with fail
            refine HhA.out.mono ?_
            rintro e w5 ⟨g5, cp5, ok5, rfl, hB5, hg5, hR5⟩
            have hD6 := HhD1.out.edge hB5 hg5 hR5 (by omega)
            have k5 := HhD1.out.box.below hB5 ozr
            have r0 := k5.cell 0
            have r1 := k5.cell 1
            have r2 := k5.frozen 0
            have r3 := k5.frozen 1
            have r4 := k5.lt
            simp at r0 r1
            clear HhA HhD1 k5 hB5 hg5 hR5 x0 x1 ozr
            have HhD6 := Lib.hid hD6
            clear hD6
            go_wp2_with fail
            go_roundw
            case rel => exact ⟨u + 1, g5, cp5, _, by omega, by omega, by go_num, HhD6.out⟩
            case measure => simp [intOf]; omega
          · have HhD1 := Lib.hid hD1
            clear hD1
            go_wp2_with fail
            go_roundw
            case rel => exact ⟨u + 1, gb, cp, f, by omega, by omega, by go_num, HhD1.out⟩
            case measure => simp [intOf]; omega
        · obtain rfl : u = N := by omega
          have HhD := Lib.hid hD
          clear hD
          go_wp2_with fail
          go_roundw
          case rel => exact ⟨v + 1, gb, cp, f, by omega, by go_num, HhD.out⟩
          case measure => simp [intOf]; omega
    · obtain rfl : v = N := by omega
      have x0 := hD.box.cell 0
      have x1 := hD.box.cell 1
      have ozr := hD.box.lt
      simp at x0 x1
      have k9 := hD.only.blk Hk0.out Hk0.out.lt (fun e => by rcases e with e | e; (have e2 : w.heap.size = cb := e; omega); exact Hhyy.out e)
      have y0 := k9.cell 0
      have y1 := k9.cell 1
      have y2 := k9.frozen 0
      have y3 := k9.frozen 1
      have y4 := k9.lt
      simp at y0 y1
      have hO0 : Only (fun b => b = cb) w.heap.size w wr := (Only.of HhB.out).trans (hD.only.mono HhB.out.size fun b hb e => e.resolve_right fun e2 => by have := hD.cy; have e3 : b = y := e2; omega)
      have hO : Only (fun b => b = cb) w.heap.size w ((wr.setCell ⟨w.heap.size, 0, none⟩ (.int .i64 v)).setCell ⟨w.heap.size, 1, none⟩ (.slice (some ⟨gb, 0, none⟩) v cp)) :=
        (hO0.setCell (p := ⟨w.heap.size, 0, none⟩) (.inr (Nat.le_refl _)) _).setCell (p := ⟨w.heap.size, 1, none⟩) (.inr (Nat.le_refl _)) _
      have hOw : Only (fun b => b = w.heap.size) wr.heap.size wr ((wr.setCell ⟨w.heap.size, 0, none⟩ (.int .i64 v)).setCell ⟨w.heap.size, 1, none⟩ (.slice (some ⟨gb, 0, none⟩) v cp)) :=
        ((Only.refl (fun b => b = w.heap.size) _ _).setCell (p := ⟨w.heap.size, 0, none⟩) (.inl rfl) _).setCell (p := ⟨w.heap.size, 1, none⟩) (.inl rfl) _
      have hcur := hD.cur.only hOw (fun b hb e => by have e2 : b = w.heap.size := e; omega)
      have hlo := hD.lo
      have hFR := (hD.row.otherCell (a := ⟨w.heap.size, 0, none⟩) (v := .int .i64 v) (by simp; omega)).otherCell (a := ⟨w.heap.size, 1, none⟩) (v := .slice (some ⟨gb, 0, none⟩) v cp) (by simp; omega)
      have hgw : w.heap.size ≤ gb := by omega
      have Hlen := Lib.hid hD.len
      have Hvg := Lib.hid hD.vg
      clear k9 hD hO0 hOw hlo
      have HhO := Lib.hid hO
      clear hO
      have Hhcur := Lib.hid hcur
      clear hcur
      have HhFR := Lib.hid hFR
      clear hFR
      go_wp2_with fail
      refine bodyPost_ret (v := .agg #[.int .i64 v, .slice (some ⟨gb, 0, none⟩) v cp]) (by simp [results, Tryz.results164, go_sem, y0, y1]) rfl ?_
      exact ⟨f, gb, cp, ⟨Hvg.out, by rw [Hlen.out]; exact Hh6.out⟩, by rw [Hlen.out], hgw, HhFR.out, HhO.out, Hhcur.out⟩

theorem big_any (n c : Nat) (bo : Option Addr) (w : World) (hn : n ≤ 9223372036854775807) :
    Calls Tryz.prog 5 #[.slice bo n c] w fun e w' => e = .returned (.bool (decide (1048576 < n))) ∧ w = w' := by
  have hd : decide ((1048576 : Int) < (n : Int)) = decide (1048576 < n) := by rw [decide_eq_decide]; omega
  go_enter Tryz.func5, Tryz.ntmps5
  go_wp2_with fail
  go_ret
  exact ⟨by simp, rfl⟩

open Go.ChangeShapes Go.WideShapes Go.ChangeAt

theorem bytes_of_trod {H : Type} {enc : TypeId × Value → H} {w : World} {base : Nat} {spare : Nat → Bool} {held : Bool} {fuel : Nat} {v : Value} {y : DataW H × List MemPlace}
    (h : DataW.trod enc Tryz.prog w base spare held fuel 22 [v] = some y) : ∃ bo n c, v = .slice bo n c ∧ BytesU w.heap.size w bo n ∧ n ≤ 9223372036854775807 := by
  rcases open_ints Tryz.underlying22 Tryz.underlying5 (by kernel_rfl) h with ⟨hcs, _⟩ | ⟨x, l, c, zs, hcs, _, hl, hm, hz, _, hcell, hwf⟩
  · obtain rfl : v = _ := by simpa using hcs
    exact ⟨none, 0, 0, rfl, fun h => by simp at h, by simp⟩
  · obtain rfl : v = _ := by simpa using hcs
    have hlz : l ≤ zs.length := by rw [hz]; split <;> omega
    refine ⟨some x, l, c, rfl, fun h0 => ?_, by unfold maxLen at hm; omega⟩
    obtain ⟨b, off, spot⟩ := x
    have hc := hcell 0 (by omega)
    have hspot : spot = none := by simpa [Addr.add] using World.cell?_spot hc
    subst hspot
    have hlt := World.block_lt_of_cell? w _ (hcell 0 (by omega))
    refine ⟨b, off, rfl, hlt, hlt, fun k hk => ?_⟩
    have h2 := hcell k (by omega)
    have hkz : k < zs.length := by omega
    have h3 := bounds_u8 (hwf (zs.getD k 0) (by rw [List.getD_eq_getElem?_getD, List.getElem?_eq_getElem hkz]; exact List.getElem_mem hkz))
    refine ⟨(zs.getD k 0).toNat, by omega, ?_⟩
    rw [Int.toNat_of_nonneg h3.1, ← h2]
    congr 1
    simp only [Addr.add]
    split <;> simp_all

end Go.Proofs.YtjikmjhpmkakoaaGreatDoor
