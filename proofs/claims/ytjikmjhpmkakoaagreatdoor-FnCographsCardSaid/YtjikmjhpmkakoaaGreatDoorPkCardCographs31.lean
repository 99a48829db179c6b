/-
  Plain: the text of a cograph's cotree, and what the program's reader gets out of any text.
  Plain: what the law of cographs asks, of a graph of at most six vertices. No conditions beyond that.
  next of the program's cotreeReader.
  set of the program's cotreeReader where no parenthesis stands; the reader's cells. For texts of at most 100 bytes.
-/
import Derived.Test.YtjikmjhpmkakoaaGreatDoorPkCardCographs29
import Derived.Test.YtjikmjhpmkakoaaGreatDoorPkCardCographs30
import Derived.Test.YtjikmjhpmkakoaaGreatDoorPkCardCographs24
import Derived.Test.YtjikmjhpmkakoaaGreatDoorPkCardCographs25
import Derived.Test.YtjikmjhpmkakoaaGreatDoorPkCardCographs26
import Derived.Test.YtjikmjhpmkakoaaGreatDoorPkCardCographs27
import Derived.Test.YtjikmjhpmkakoaaGreatDoorPkCardCographs01
import Derived.Test.YtjikmjhpmkakoaaGreatDoorPkCardCographs28
namespace Go.Proofs.YtjikmjhpmkakoaaGreatDoor
open Go.RowKit

/-- The text is that of the cotree of this cograph. -/
structure IsCt (L : List UInt8) (f : List Int) : Prop where
  graph : isGraphB f.length f = true
  free : noP4 f
  text : L = ctV f
/-- What the program's reader ends with. -/
def gotR (L : List UInt8) : Nat × RdSt := rdI L (L.length + 1) none ⟨0, List.replicate 7 0, false⟩
def gotF (L : List UInt8) : List Int := ((gotR L).2.rows.take (cnt (gotR L).1)).map Int.ofNat
theorem rd0_ok (L : List UInt8) : RdOk L ⟨0, List.replicate 7 0, false⟩ := ⟨by simp, by simp, fun v => by
  rw [List.getD_eq_getElem?_getD, List.getElem?_replicate]; split <;> simp⟩
theorem gotR_ok (L : List UInt8) : (gotR L).1 < 128 ∧ RdOk L (gotR L).2 := by
  obtain ⟨a, b, -⟩ := rdI_ok L (L.length + 1) none _ (rd0_ok L) (fun x e => by cases e)
  exact ⟨a, b⟩
theorem gotF_len (L : List UInt8) : (gotF L).length = cnt (gotR L).1 := by
  obtain ⟨-, ok⟩ := gotR_ok L
  have := cnt_le (gotR L).1
  unfold gotF
  rw [List.length_map, List.length_take, ok.len]
  omega
theorem cnt_fullL {f : List Int} (g : VG f) : cnt (2 ^ f.length - 1) = f.length := by
  unfold cnt
  rw [els_full g.le]
  simp
theorem IsCt.got {L : List UInt8} {f : List Int} (h : IsCt L f) : (gotR L).2.bad = false ∧ gotF L = f := by
  have g := (VG.of h.graph).2
  have h1 := (cot_read h.graph h.free (F := (ctV f).length + 1) (Nat.le_refl _)).1
  have e := h.text
  subst e
  have h2 : gotR (ctV f) = (2 ^ f.length - 1, ⟨(ctV f).length, addW f (2 ^ f.length - 1) (List.replicate 7 0), false⟩) := h1
  unfold gotF
  rw [h2]
  refine ⟨rfl, ?_⟩
  dsimp only
  rw [cnt_fullL g]
  exact addW_full g
theorem IsCt.one {L : List UInt8} {f f' : List Int} (h : IsCt L f) (h' : IsCt L f') : f = f' := h.got.2.symm.trans h'.got.2
/-- The program's last checks tell. -/
theorem got_iff (L : List UInt8) : ((gotR L).2.bad = false ∧ cogB (gotF L).length (gotF L) = true ∧ ctS (gotF L).length (gotF L) = bs L) ↔ IsCt L (gotF L) := by
  constructor
  · rintro ⟨-, h2, h3⟩
    have hg := cogB_graph h2
    rw [ctS_of h2] at h3
    exact ⟨hg, (cog_iff hg).1 h2, (bs_inj h3).symm⟩
  · intro h
    have hc : cogB (gotF L).length (gotF L) = true := (cog_iff h.graph).2 h.free
    exact ⟨h.got.1, hc, by rw [ctS_of hc, ← h.text]⟩
theorem got_none {L : List UInt8} (h : ¬IsCt L (gotF L)) (f : List Int) : ¬IsCt L f := fun h2 => h (by rw [h2.got.2]; exact h2)

/-! ### The reference's reader -/
/-- What the reference's reader ends with. -/
def gotS (L : List UInt8) : Option (List Int × Nat × Nat) := rdS L (L.length + 1) none (zerosG (digN L)) 0
theorem IsCt.gotS {L : List UInt8} {f : List Int} (h : IsCt L f) : digN L = f.length ∧ gotS L = some (f, 2 ^ f.length - 1, L.length) := by
  have g := (VG.of h.graph).2
  have h1 := (cot_read h.graph h.free (F := (ctV f).length + 1) (Nat.le_refl _)).2
  have h2 := ctV_dig h.graph h.free
  rw [cnt_fullL g] at h2
  have e := h.text
  subst e
  refine ⟨h2, ?_⟩
  unfold Go.Proofs.YtjikmjhpmkakoaaGreatDoor.gotS
  rw [h2]
  exact h1
theorem IsCt.len {L : List UInt8} {f : List Int} (h : IsCt L f) : L.length ≤ 37 := by rw [h.text]; exact ctV_len h.graph h.free
/-- What GraphOfCotree hands back. -/
def RetGc (L : List UInt8) (w : World) (e : Ending) (w' : World) : Prop :=
  Below w.heap.size w w' ∧ ((∃ (f : List Int) (ao : Option Addr) (c : Nat), e = .returned (.tuple #[.agg #[.int .i64 f.length, .slice ao f.length c], .bool true]) ∧ IsCt L f ∧ IntsAt w' ao f) ∨ (e = .returned (.tuple #[.agg #[.int .i64 0, .slice none 0 0], .bool false]) ∧ ∀ f, ¬IsCt L f))

end Go.Proofs.YtjikmjhpmkakoaaGreatDoor

namespace Go.Proofs.YtjikmjhpmkakoaaGreatDoor
open Go.RowKit

theorem cog_len {x : Int} {f : List Int} (h : cogB x f = true) : x = f.length := (VG.of (cogB_graph h)).1
theorem cog_ct {x : Int} {f : List Int} (h : cogB x f = true) : IsCt (ctV f) f ∧ ctS x f = bs (ctV f) := by
  have h1 := cog_len h
  subst h1
  exact ⟨⟨cogB_graph h, (cog_iff (cogB_graph h)).1 h, rfl⟩, ctS_of h⟩
theorem tw_cog (x : Int) (f : List Int) : (twI x f).isSome = cogB x f := by
  cases hv : isGraphB x f
  · rw [twI_no hv, cogB_no hv]; rfl
  · obtain ⟨rfl, -⟩ := VG.of hv
    unfold twI
    rw [Option.isSome_map, Bool.eq_iff_iff, twins_iff hv, cog_iff hv]
theorem cog_her {x : Int} {f : List Int} (h6 : f.length ≤ 6) (h : cogB x f = true) : (prunesV x f).isSome = true := by
  have h1 := cog_len h
  subst h1
  have hv := cogB_graph h
  have g := (VG.of hv).2
  have hp := (cog_iff hv).1 h
  rw [prunes_iff hv h6, obP_iff g h6 (all_lt _)]
  rintro (⟨a, b, c, d, e, -, -, ⟨h1, h2, h3⟩, ⟨h4, h5, h7⟩, -⟩ | ⟨a, b, c, d, v, e, -, -, ⟨h1, h2, h3, -⟩, ⟨h4, h5, -, h7, -⟩, -⟩)
  · exact hp a b c d h1 h2 h3 h4 h5 h7
  · exact hp a b c d h1 h2 h3 h4 h7 h5

theorem twRun_len {rs : List Int} : ∀ (f S : Nat) (acc l : List Nat), twRun rs f S acc = some l → l.length ≤ acc.length + f + 7
  | 0, S, acc, l, h => by
    have h2 : acc ++ els S = l := Option.some.inj h
    have := els_len S
    rw [← h2, List.length_append]; omega
  | f + 1, S, acc, l, h => by
    rw [twRun] at h
    split at h
    · have h2 : acc ++ els S = l := Option.some.inj h
      have := els_len S
      rw [← h2, List.length_append]; omega
    · split at h
      · cases h
      · have := twRun_len f _ _ l h
        rw [List.length_append] at this
        simp at this
        omega
theorem twI_len (x : Int) (f : List Int) (h6 : f.length ≤ 6) : ((twI x f).getD []).length ≤ 13 := by
  unfold twI
  cases h : twV x f with
  | none => simp
  | some l =>
    simp only [Option.map_some, Option.getD_some]
    have h2 := h
    unfold twV at h2
    split at h2
    · have := twRun_len _ _ _ _ h2
      simp [ints] at this ⊢
      omega
    · cases h2
/-- What GraphOfCotree hands back is told by the text. -/
theorem goc_val (L : List UInt8) : ∃ (R : List Int) (b : Bool), (b = true → cogB R.length R = true) ∧ R.length ≤ 7 ∧ ∀ w e w', RetGc L w e w' → ∃ (ao : Option Addr) (c : Nat), e = .returned (.tuple #[.agg #[.int .i64 R.length, .slice ao R.length c], .bool b]) ∧ Below w.heap.size w w' ∧ IntsAt w' ao R := by
  by_cases h : ∃ f, IsCt L f
  · obtain ⟨f, h⟩ := h
    refine ⟨f, true, fun _ => (cog_iff h.graph).2 h.free, (VG.of h.graph).2.le, fun w e w' ⟨hB, hr⟩ => ?_⟩
    rcases hr with ⟨f2, ao, c, rfl, h2, hI⟩ | ⟨-, hno⟩
    · obtain rfl := h.one h2
      exact ⟨ao, c, rfl, hB, hI⟩
    · exact absurd h (hno f)
  · refine ⟨[], false, (fun h => by cases h), by simp, fun w e w' ⟨hB, hr⟩ => ?_⟩
    rcases hr with ⟨f2, ao, c, rfl, h2, hI⟩ | ⟨rfl, -⟩
    · exact absurd ⟨f2, h2⟩ h
    · exact ⟨none, 0, rfl, hB, fun h0 => by simp at h0⟩
theorem ans_len (x : Int) (f : List Int) : (ansL x f).length ≤ 2 := by
  cases h : cogB x f
  · rw [ansL_no h]; simp
  · rw [ansL_of h]; simp
theorem ans_two {x : Int} {f : List Int} (h : cogB x f = true) : ∃ I : Nat, I < 128 ∧ largestV x f (fun S => indepB f.length f S) = (I : Int) ∧ ansL x f = [clqN x f, (cnt I : Int)] := by
  have hg := cogB_graph h
  obtain ⟨rfl, g⟩ := VG.of hg
  obtain ⟨I, hI, hIe⟩ : ∃ I : Nat, I < 128 ∧ largestV f.length f (fun S => indepB f.length f S) = (I : Int) := by
    have hp := g.pow
    refine ⟨largestTo (fun S : Nat => indepB f.length f S) (2 ^ f.length), Nat.lt_of_lt_of_le (largestTo_lt _ _ (by omega)) hp.1, ?_⟩
    unfold largestV; rw [if_pos hg]
  exact ⟨I, hI, hIe, by rw [ansL_of h, hIe, Int.toNat_natCast]⟩

end Go.Proofs.YtjikmjhpmkakoaaGreatDoor

namespace Go.Proofs.YtjikmjhpmkakoaaGreatDoor
open Go.RowKit

/-- The reader's cells. -/
def rdCells (L : List UInt8) (s : RdSt) : Array Value := (#[.string (bs L), .int .i64 s.pos] ++ (List.map (fun r : Nat => Value.int .i64 (Int.ofNat r)) s.rows).toArray) ++ #[.bool s.bad]

set_option maxRecDepth 100000 in
set_option maxHeartbeats 1000000 in
theorem rdNext_any (L : List UInt8) (p : Nat) (bad : Bool) (r0 r1 r2 r3 r4 r5 r6 : Nat) (rb : Nat) (w : World) (hk : Blk w rb (rdCells L ⟨p, [r0, r1, r2, r3, r4, r5, r6], bad⟩) 89) (hL : L.length ≤ 100) (hp : p ≤ L.length) :
    Calls Tryz.prog 131 #[.pointer (some ⟨rb, 0, none⟩)] w fun e w' => e = .returned (.int .u8 ((rdNext L ⟨p, [r0, r1, r2, r3, r4, r5, r6], bad⟩).1.toNat : Int)) ∧ Only (fun b => b = rb) w.heap.size w w' ∧ Blk w' rb (rdCells L (rdNext L ⟨p, [r0, r1, r2, r3, r4, r5, r6], bad⟩).2) 89 := by
  have c0 := hk.cell 0
  have c1 := hk.cell 1
  have c9 := hk.cell 9
  have f1 := hk.frozen 1
  have f9 := hk.frozen 9
  have hl := hk.lt
  simp [rdCells] at c0 c1 c9
  go_enter Tryz.func131, Tryz.ntmps131
  have hbz := bs_size L
  by_cases he : p = L.length
  · have d0 : ((p : Int) == (L.length : Int)) = true := by rw [beq_iff_eq]; omega
    have hn : rdNext L ⟨p, [r0, r1, r2, r3, r4, r5, r6], bad⟩ = (0, ⟨p, [r0, r1, r2, r3, r4, r5, r6], true⟩) := by unfold rdNext; rw [if_pos he]
    rw [hn]
    have hst := hk.store 9 (.bool true)
    have Hhk := Lib.hid hk
    clear hk
    have Hhst := Lib.hid hst
    clear hst
    have He := Lib.hid he
    clear he
    go_upto_region 1 with fail
    obtain ⟨m, hm0⟩ : ∃ m : Later w, m.w = w := ⟨Later.refl _, rfl⟩
    refine (fun h => hm0 ▸ h) ?_
    clear hm0
    refine wp_region_later m rfl (by kernel_rfl) (by kernel_rfl) ?_
    repeat (go_big_quiet_step (fail))
    refine wpQuiet_nil ?_
    rintro _ ⟨m, rfl⟩
    go_wp2_with fail
    go_ret
    refine ⟨rfl, (Only.of (X := fun b => b = rb) m.below).setCell (p := ⟨rb, 9, none⟩) (.inl rfl) _, ?_⟩
    have := (Hhk.out.later m).store 9 (.bool true)
    simpa [rdCells] using this
  · have hlt : p < L.length := by omega
    have d0 : ((p : Int) == (L.length : Int)) = false := by rw [beq_eq_false_iff_ne]; omega
    have hn : rdNext L ⟨p, [r0, r1, r2, r3, r4, r5, r6], bad⟩ = (L.getD p 0, ⟨p + 1, [r0, r1, r2, r3, r4, r5, r6], bad⟩) := by unfold rdNext; rw [if_neg he]
    rw [hn]
    have Hhk := Lib.hid hk
    clear hk
    go_upto_region 1 with fail
    obtain ⟨m, hm0⟩ : ∃ m : Later w, m.w = w := ⟨Later.refl _, rfl⟩
    refine (fun h => hm0 ▸ h) ?_
    clear hm0
    refine wp_region_later m rfl (by kernel_rfl) (by kernel_rfl) ?_
    repeat (go_big_quiet_step (fail))
    refine wpQuiet_nil ?_
    rintro _ ⟨m, rfl⟩
    go_upto_region 5 with fail
    have k3 : Blk (m.w.setCell ⟨rb, 1, none⟩ (.int .i64 ((p : Int) + 1))) rb (rdCells L ⟨p + 1, [r0, r1, r2, r3, r4, r5, r6], bad⟩) 89 := by
      have := (Hhk.out.later m).store 1 (.int .i64 ((p : Int) + 1))
      simpa [rdCells] using this
    have hO3 : Only (fun b => b = rb) w.heap.size w (m.w.setCell ⟨rb, 1, none⟩ (.int .i64 ((p : Int) + 1))) := (Only.of (X := fun b => b = rb) m.below).setCell (p := ⟨rb, 1, none⟩) (.inl rfl) _
    generalize World.setCell _ _ _ = W3 at *
    clear c0 c1 c9 f1 f9 hl Hhk m
    have c0 := k3.cell 0
    have c1 := k3.cell 1
    have hl := k3.lt
    simp [rdCells] at c0 c1
    have hq : (p : Int) + 1 - 1 = (p : Int) := by omega
    have Hk3 := Lib.hid k3
    clear k3
    have HhO3 := Lib.hid hO3
    clear hO3
    obtain ⟨m, hm0⟩ : ∃ m : Later W3, m.w = W3 := ⟨Later.refl _, rfl⟩
    refine (fun h => hm0 ▸ h) ?_
    clear hm0
    refine wp_region_later m rfl (by kernel_rfl) (by kernel_rfl) ?_
    repeat (go_big_quiet_step (fail))
    refine wpQuiet_nil ?_
    rintro _ ⟨m, rfl⟩
    go_wp2_with fail
    go_ret
    have hbyte : ∀ h : p < (bs L).size, (bs L)[p] = L.getD p 0 := fun h => by
      show L.toArray[p] = _
      simp only [List.getD_eq_getElem?_getD, List.getElem?_eq_getElem hlt, Option.getD_some]
      exact List.getElem_toArray _
    refine ⟨by simp [hbyte, List.getElem?_eq_getElem hlt], Hk3.out.lt |> fun _ => HhO3.out.more m.below HhO3.out.size, Hk3.out.later m⟩

end Go.Proofs.YtjikmjhpmkakoaaGreatDoor

namespace Go.Proofs.YtjikmjhpmkakoaaGreatDoor
open Go.RowKit

theorem rows7 : ∀ {l : List Nat}, l.length = 7 → ∃ r0 r1 r2 r3 r4 r5 r6, l = [r0, r1, r2, r3, r4, r5, r6]
  | [a, b, c, d, e, f, g], _ => ⟨a, b, c, d, e, f, g, rfl⟩
theorem rdNext_at_any (L : List UInt8) (s : RdSt) (rb : Nat) (w : World) (hk : Blk w rb (rdCells L s) 89) (hL : L.length ≤ 100) (ok : RdOk L s) :
    Calls Tryz.prog 131 #[.pointer (some ⟨rb, 0, none⟩)] w fun e w' => e = .returned (.int .u8 ((rdNext L s).1.toNat : Int)) ∧ Only (fun b => b = rb) w.heap.size w w' ∧ Blk w' rb (rdCells L (rdNext L s).2) 89 := by
  obtain ⟨p, rows, bad⟩ := s
  obtain ⟨r0, r1, r2, r3, r4, r5, r6, rfl⟩ := rows7 ok.len
  exact rdNext_any L p bad r0 r1 r2 r3 r4 r5 r6 rb w hk hL ok.pos
theorem rdCells_pos (L : List UInt8) (s : RdSt) (_h : s.rows.length = 7) : (rdCells L s)[1]? = some (.int .i64 s.pos) := by
  obtain ⟨p, rows, bad⟩ := s
  obtain ⟨r0, r1, r2, r3, r4, r5, r6, rfl⟩ := rows7 _h
  simp [rdCells]
theorem rdCells_bad (L : List UInt8) (s : RdSt) (h : s.rows.length = 7) : (rdCells L s)[9]? = some (.bool s.bad) := by
  obtain ⟨p, rows, bad⟩ := s
  obtain ⟨r0, r1, r2, r3, r4, r5, r6, rfl⟩ := rows7 h
  simp [rdCells]
theorem rdCells_row (L : List UInt8) (s : RdSt) (h : s.rows.length = 7) (v : Nat) (hv : v < 7) : (rdCells L s)[2 + v]? = some (.int .i64 (s.rows.getD v 0 : Nat)) := by
  obtain ⟨p, rows, bad⟩ := s
  obtain ⟨r0, r1, r2, r3, r4, r5, r6, rfl⟩ := rows7 h
  rcases (by omega : v = 0 ∨ v = 1 ∨ v = 2 ∨ v = 3 ∨ v = 4 ∨ v = 5 ∨ v = 6) with rfl | rfl | rfl | rfl | rfl | rfl | rfl <;> simp [rdCells]
theorem rdCells_setBad (L : List UInt8) (s : RdSt) (h : s.rows.length = 7) (b : Bool) : (rdCells L s).setIfInBounds 9 (.bool b) = rdCells L { s with bad := b } := by
  obtain ⟨p, rows, bad⟩ := s
  obtain ⟨r0, r1, r2, r3, r4, r5, r6, rfl⟩ := rows7 h
  simp [rdCells]
theorem rdCells_setRow (L : List UInt8) (s : RdSt) (h : s.rows.length = 7) (v : Nat) (hv : v < 7) (x : Nat) : (rdCells L s).setIfInBounds (2 + v) (.int .i64 x) = rdCells L { s with rows := s.rows.set v x } := by
  obtain ⟨p, rows, bad⟩ := s
  obtain ⟨r0, r1, r2, r3, r4, r5, r6, rfl⟩ := rows7 h
  rcases (by omega : v = 0 ∨ v = 1 ∨ v = 2 ∨ v = 3 ∨ v = 4 ∨ v = 5 ∨ v = 6) with rfl | rfl | rfl | rfl | rfl | rfl | rfl <;> simp [rdCells]
/-- The reader's place. -/
def posW (w : World) (rb : Nat) : Nat := match w.cell? ⟨rb, 1, none⟩ with | some (.int _ x) => x.toNat | _ => 0
theorem posW_of {L : List UInt8} {s : RdSt} {w : World} {rb : Nat} (hk : Blk w rb (rdCells L s) 89) (h : s.rows.length = 7) : posW w rb = s.pos := by
  unfold posW
  rw [hk.cell 1, rdCells_pos L s h]
  simp
theorem u8_eq {c : UInt8} {k : Nat} (h : c.toNat = k) : c = UInt8.ofNat k := by rw [← h]; simp

/-- A row of the reader is joined with a set. -/
theorem rd_or {L : List UInt8} {s : RdSt} {w : World} {rb v x y : Nat} (hk : Blk w rb (rdCells L s) 89) (h : s.rows.length = 7) (hv : v < 7) (hx : x < 128) (hy : y < 128) :
    Blk (w.setCell ⟨rb, 2 + v, none⟩ (.int .i64 (bits .or .i64 (x : Int) (y : Int)))) rb (rdCells L { s with rows := s.rows.set v (x ||| y) }) 89 := by
  have h2 := hk.store (2 + v) (.int .i64 ((x ||| y : Nat) : Int))
  rw [rdCells_setRow L s h v hv] at h2
  rw [bits_or_nat _ _ (by omega) (by omega)]
  exact h2
theorem has_bit {S k : Nat} (hk : k ≤ 63) (w : World) : Calls Tryz.prog 60 #[.int .i64 S, .int .i64 k] w fun e w' => e = .returned (.bool (S.testBit k)) ∧ w = w' := by
  have h := has_any (S : Int) k (by omega) (by omega) w
  rwa [Int.toNat_natCast, hasN_nat] at h

set_option maxRecDepth 100000 in
set_option maxHeartbeats 4000000 in
theorem rdSet_leaf (L : List UInt8) (hL : L.length ≤ 100) (rb F : Nat) (s : RdSt) (w : World) (ok : RdOk L s) (hk : Blk w rb (rdCells L s) 89) (hc : ¬(rdNext L s).1 = 40) :
    Calls Tryz.prog 88 #[.pointer (some ⟨rb, 0, none⟩)] w fun e w' => e = .returned (.int .i64 ((rdI L (F + 1) none s).1 : Nat)) ∧ Only (fun b => b = rb) w.heap.size w w' ∧ Blk w' rb (rdCells L (rdI L (F + 1) none s).2) 89 := by
  have hN := rdNext_at_any L s rb w hk hL ok
  obtain ⟨ok1, hp1, hp1'⟩ := rdNext_ok ok
  have hadv := rdNext_adv (L := L) (s := s)
  have hc8 : (rdNext L s).1.toNat < 256 := UInt8.toNat_lt _
  have hcn : ¬(rdNext L s).1.toNat = 40 := fun e => hc (u8_eq (k := 40) e)
  have hW := rdI_wrong (L := L) (F := F) (s := s) hc
  have hD := rdI_digit (L := L) (F := F) (s := s) hc
  generalize rdI L (F + 1) none s = R at *
  generalize (rdNext L s).1.toNat = cn at *
  generalize (rdNext L s).2 = s1 at *
  have d0 : ((cn : Int) == 40) = false := by rw [beq_eq_false_iff_ne]; omega
  have hI := fun w' : World => within_any ((cn : Int) - 48) 0 6 w'
  clear hc hcn hadv
  go_enter Tryz.func88, Tryz.ntmps88
  go_wp2_with fail
  refine hN.mono ?_
  rintro e w1 ⟨rfl, hO1, hk1⟩
  have x9 := (hk1.cell 9).trans (rdCells_bad L s1 ok1.len)
  have xf := hk1.frozen 9
  have xl := hk1.lt
  have hst := fun b : Bool => (by
    have h := hk1.store 9 (.bool b)
    rwa [rdCells_setBad L s1 ok1.len] at h : Blk (w1.setCell ⟨rb, 9, none⟩ (.bool b)) rb (rdCells L { s1 with bad := b }) 89)
  have hOs := fun b : Bool => hO1.setCell (p := ⟨rb, 9, none⟩) (.inl rfl) (.bool b)
  clear hN hk
  by_cases hw : s1.bad = true ∨ ¬(48 ≤ cn ∧ cn ≤ 54)
  · have hR := hW hw
    subst hR
    clear hW hD
    have hk2 := hst true
    have hO2 := hOs true
    cases hb : s1.bad
    · rw [hb] at x9
      have d1 : (decide (0 ≤ (cn : Int) - 48) && decide ((cn : Int) - 48 ≤ 6)) = false := by
        rcases hw with h | h
        · rw [hb] at h; cases h
        · rw [Bool.and_eq_false_iff, decide_eq_false_iff_not, decide_eq_false_iff_not]; omega
      rw [d1] at hI
      have Hhk2 := Lib.hid hk2
      clear hk2
      have HhO2 := Lib.hid hO2
      clear hO2
      have Hhst := Lib.hid hst
      clear hst
      have HhOs := Lib.hid hOs
      clear hOs
      have HhO1 := Lib.hid hO1
      clear hO1
      have Hhk1 := Lib.hid hk1
      clear hk1
      clear d1 hw hb
      go_upto_region 4 with (first | (go_at_call 59; refine (hI _).mono ?_; rintro e w' ⟨rfl, rfl⟩))
      clear Hhst HhOs HhO1 Hhk1 x9 xf xl
      generalize World.setCell _ _ _ = W2 at *
      have x9 := (Hhk2.out.cell 9).trans (rdCells_bad L _ (by exact ok1.len))
      have xl := Hhk2.out.lt
      dsimp only at x9
      go_wp2_with fail
      go_ret
      exact ⟨rfl, HhO2.out, Hhk2.out⟩
    · rw [hb] at x9
      have Hhk2 := Lib.hid hk2
      clear hk2
      have HhO2 := Lib.hid hO2
      clear hO2
      have Hhst := Lib.hid hst
      clear hst
      have HhOs := Lib.hid hOs
      clear hOs
      have HhO1 := Lib.hid hO1
      clear hO1
      have Hhk1 := Lib.hid hk1
      clear hk1
      clear hI hw hb
      go_upto_region 4 with fail
      clear Hhst HhOs HhO1 Hhk1 x9 xf xl
      generalize World.setCell _ _ _ = W2 at *
      have x9 := (Hhk2.out.cell 9).trans (rdCells_bad L _ (by exact ok1.len))
      have xl := Hhk2.out.lt
      dsimp only at x9
      go_wp2_with fail
      go_ret
      exact ⟨rfl, HhO2.out, Hhk2.out⟩
  · have hb : s1.bad = false := by cases h : s1.bad <;> simp_all
    have h48 : 48 ≤ cn ∧ cn ≤ 54 := by omega
    have hR := hD hb h48.1 h48.2
    subst hR
    clear hW hD
    rw [hb] at x9
    have d1 : (decide (0 ≤ (cn : Int) - 48) && decide ((cn : Int) - 48 ≤ 6)) = true := by
      rw [Bool.and_eq_true, decide_eq_true_eq, decide_eq_true_eq]; omega
    rw [d1] at hI
    have hk2 := hst false
    have hO2 := hOs false
    have he : ({ s1 with bad := false } : RdSt) = s1 := by rw [← hb]
    rw [he] at hk2
    have hp : pwN (cn - 48) = ((2 ^ (cn - 48) : Nat) : Int) := pwN_small _ (by omega)
    have Hhk2 := Lib.hid hk2
    clear hk2
    have HhO2 := Lib.hid hO2
    clear hO2
    have Hhst := Lib.hid hst
    clear hst
    have HhOs := Lib.hid hOs
    clear hOs
    have HhO1 := Lib.hid hO1
    clear hO1
    have Hhk1 := Lib.hid hk1
    clear hk1
    clear d1 hw he
    go_upto_region 4 with (first | (go_at_call 59; refine (hI _).mono ?_; rintro e w' ⟨rfl, rfl⟩))
    clear Hhst HhOs HhO1 Hhk1 x9 xf xl
    generalize World.setCell _ _ _ = W2 at *
    have x9 := (Hhk2.out.cell 9).trans (rdCells_bad L s1 ok1.len)
    have xl := Hhk2.out.lt
    rw [hb] at x9
    clear hb
    have hsub : IntKind.u8.wrap ((cn : Int) - 48) = ((cn - 48 : Nat) : Int) := by
      rw [show (cn : Int) - 48 = ((cn - 48 : Nat) : Int) by omega]
      simp only [IntKind.wrap, IntKind.bits, IntKind.signed]; simp; omega
    go_wp2_with fail
    go_ret
    exact ⟨by simp [hp], HhO2.out, Hhk2.out⟩

end Go.Proofs.YtjikmjhpmkakoaaGreatDoor
