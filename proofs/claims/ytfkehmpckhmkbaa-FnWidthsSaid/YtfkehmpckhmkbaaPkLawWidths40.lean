/-
  l10Search of the reference, for one result: what it finds is all of the list, in an order in which each vertex is in sets that follow one another; CliqueOrderOf, IsInterval. For at most 2^20 rows.
  The laws' own test that two lists are the same. The lists have at most 2^47 elements.
-/
import Derived.Test.YtfkehmpckhmkbaaPkLawWidths39
import Derived.Test.YtfkehmpckhmkbaaPkLawWidths01
namespace Go.Proofs.Ytfkehmpckhmkbaa
open Go.RowKit

/-- Different members of l in a row as it should be. -/
structure GoodO (l d : List Int) : Prop where
  mem : ∀ k, k < d.length → ∃ j, j < l.length ∧ gi d k = gi l j
  dif : ∀ i j, i < j → j < d.length → gi d i ≠ gi d j
  con : d.length = 0 ∨ conB d = true
theorem GoodO.snoc {l d : List Int} (h : GoodO l d) {i : Nat} (hi : i < l.length) (hno : inB d (gi l i) = false) (hc : conB (d ++ [gi l i]) = true) : GoodO l (d ++ [gi l i]) := by
  have hlen : (d ++ [gi l i]).length = d.length + 1 := by simp
  refine ⟨fun k hk => ?_, fun a b hab hb => ?_, .inr hc⟩
  · by_cases e : k < d.length
    · rw [gi_left e]; exact h.mem k e
    · obtain rfl : k = d.length := by omega
      rw [gi_last]; exact ⟨i, hi, rfl⟩
  · rw [hlen] at hb
    rw [gi_left (show a < d.length by omega)]
    by_cases e : b < d.length
    · rw [gi_left e]; exact h.dif a b hab e
    · obtain rfl : b = d.length := by omega
      rw [gi_last]
      intro e2
      have : inB d (gi l i) = true := inB_true.2 ⟨a, by omega, e2⟩
      rw [hno] at this; cases this
/-- What the search says: nothing, or one order. -/
def RetSr (w : World) (l : List Int) (e : Ending) (w' : World) : Prop :=
  ∃ (ao : Option Addr) (n cap k : Nat), e = .returned (.tuple #[.slice ao n cap, .int .i64 (k : Int)]) ∧ Below w.heap.size w w' ∧ k ≤ 1 ∧ (k = 1 → ∃ d, GoodO l d ∧ d.length = l.length)

set_option maxRecDepth 100000 in
set_option maxHeartbeats 4000000 in
theorem l10Search_any (l0 : List Int) (hl7 : l0.length ≤ 128) (lo : Option Addr) (n0 c0 : Nat) (hn0 : n0 = l0.length) : ∀ (f : Nat) (l : List Int) (n lc : Nat) (la : Addr) (w : World), l.length + f = l0.length → n = l.length → IntsAt w lo l0 → IntsAt w (some la) l → GoodO l0 l →
    Calls Try.prog 73 #[.slice lo n0 c0, .slice (some la) n lc, .int .i64 1] w (RetSr w l0) := by
  subst hn0
  intro f
  induction f with
  | zero =>
    intro l n lc la w hlf hn hr hl hG
    subst hn
    have hN : ((l.length : Int) == (l0.length : Int)) = true := by rw [beq_iff_eq]; omega
    have HG : Hid (∃ d, GoodO l0 d ∧ d.length = l0.length) := Lib.hid ⟨l, hG, by omega⟩
    clear hG hlf
    go_enter Try.func73, Try.ntmps73
    go_wp2_with fail
    go_ret2
    exact ⟨some la, l.length, lc, 1, rfl, Below.refl _ _, Nat.le_refl _, fun _ => HG.out⟩
  | succ f ih =>
    intro l n lc la w hlf hn hr hl hG
    subst hn
    have hN : ((l.length : Int) == (l0.length : Int)) = false := by rw [beq_eq_false_iff_ne]; omega
    have hl5 : l.length ≤ 128 := by omega
    have Hih := Lib.hid ih
    clear ih
    have Hhlf := Lib.hid hlf
    clear hlf
    have HhG := Lib.hid hG
    clear hG
    go_enter Try.func73, Try.ntmps73
    go_wp2_with fail
    generalize hW : w.alloc _ = W1
    obtain ⟨hB, -, -⟩ := alloc1 hW
    replace hr := hr.below hB
    replace hl := hl.below hB
    have HhB := Lib.hid hB
    clear hB hW
    generalize (⟨w.heap.size, 0, none⟩ : Addr) = na at *
    obtain ⟨m, hm0⟩ : ∃ m : Later W1, m.w = W1 := ⟨Later.refl _, rfl⟩
    refine (fun h => hm0 ▸ h) ?_
    clear hm0
    go_loopw [8, 9, 10] (fun a k i wr => (∃ m : Later W1, wr = m.w) ∧ ∃ (ao : Option Addr) (an ac kk j : Nat), j ≤ l0.length ∧ i = .int .i64 j ∧ a = .slice ao an ac ∧ k = .int .i64 kk ∧ kk ≤ 1 ∧ (kk = 1 → ∃ d, GoodO l0 d ∧ d.length = l0.length)) (fun _ _ i _ => l0.length - (intOf i).toNat)
    case atStart => exact ⟨⟨m, rfl⟩, some na, 0, 0, 0, 0, by omega, rfl, rfl, rfl, by omega, fun h => by omega⟩
    case round =>
      obtain ⟨⟨m, rfl⟩, ao, an, ac, kk, j, hj, rfl, rfl, rfl, hkk, hK⟩ := hrel
      have HK := Lib.hid hK
      clear hK
      by_cases hlt : j < l0.length
      · by_cases hk0 : kk = 1
        · subst hk0
          go_wp2_with fail
          go_ret2
          exact ⟨ao, an, ac, 1, rfl, below_later HhB.out m, Nat.le_refl _, fun _ => HK.out trivial⟩
        · obtain rfl : kk = 0 := by omega
          clear hk0 hkk
          obtain ⟨lb, lofs, rfl, hlb, hlc⟩ := hr (by omega)
          have hcj := hlc j hlt
          clear hlc
          have hH := fun m : Later W1 => l8Has_any l (gi l0 j) (some la) l.length lc m.w (hl.later m) rfl (by omega)
          have hx : (l ++ [gi l0 j]).length = l.length + 1 := by simp
          have HSn := Lib.hid (fun h1 h2 => HhG.out.snoc (i := j) hlt h1 h2)
          have hih := fun (n lc : Nat) (la : Addr) (w : World) (h1 : n = (l ++ [gi l0 j]).length) h2 h3 h4 => Hih.out (l ++ [gi l0 j]) n lc la w (by have := Hhlf.out; omega) h1 h2 h3 h4
          have HrI := Lib.hid hr
          generalize gi l0 j = y at *
          have Hhx := Lib.hid hx
          clear hx
          have Hhih := Lib.hid hih
          clear hih
          cases hi : inB l y
          rotate_left
          · rw [hi] at hH
            clear hi HSn Hhih
            go_wp2_with (first | (go_at_call 86; refine (hH m).mono ?_; rintro e w' ⟨rfl, rfl⟩))
            go_roundw
            case rel => exact ⟨⟨m, rfl⟩, ao, an, ac, 0, j + 1, by omega, by go_num, rfl, rfl, by omega, fun h => by omega⟩
            case measure => simp [intOf]; omega
          rw [hi] at hH
          go_wp2_with (first | (go_at_call 86; refine (hH m).mono ?_; rintro e w' ⟨rfl, rfl⟩))
          clear hH
          have hS' : ∀ w', Below W1.heap.size W1 w' → Below W1.heap.size W1 w' ∧ w'.cell? ⟨lb, lofs + j, none⟩ = some (.int .i64 y) := fun w' h => ⟨h, (h.cell hlb).trans hcj⟩
          go_region_held3 (fun w' => Below W1.heap.size W1 w' ∧ w'.cell? ⟨lb, lofs + j, none⟩ = some (.int .i64 y))
            (exact hS' _ (by first | exact m.below.drew | assumption | exact Below.alloc (And.left (by assumption : Below W1.heap.size W1 _ ∧ _)) (And.left (by assumption : Below W1.heap.size W1 _ ∧ _)).size _))
            (first
              | ((refine step_append_copy (by rfl) (.tmp 38) (.tmp 39) (by rfl) W1.heap.size _ la l lc (by rfl) (by rfl) (hl.below (And.left (by assumption : Below W1.heap.size W1 _ ∧ _))) (And.left (by assumption : Below W1.heap.size W1 _ ∧ _)).size (by omega) ?_); intro ao1 cap1 w1 hne1 hown1 hBw1; have hB2 : Below W1.heap.size W1 w1 := below_more (And.left (by assumption : Below W1.heap.size W1 _ ∧ _)) hBw1)
              | ((refine step_append_e (by rfl) (.tmp 40) (.tmp 45) (by rfl) W1.heap.size cap1 ao1 l y _ (by rfl) (by first | exact hown1 | exact hown1.below ((Below.refl _ _).alloc (Nat.le_refl _) _)) (by rfl) (by first | exact cell_new (by simp) | exact (hBw1.cell (by first | (simp; done) | (simp; omega))).trans (cell_new (by simp)) | exact (hBw1.cell (by first | (simp; done) | (simp; omega))).trans (cell_new2 (by simp))) (And.left (by assumption : Below W1.heap.size W1 _ ∧ _)).size (by omega) ?_); intro ao2 cap2 w2 hown2 hBw2; have hB3 : Below W1.heap.size W1 w2 := (And.left (by assumption : Below W1.heap.size W1 _ ∧ _)).trans hBw2; dsimp only))
          all_goals
            clear hS'
            have hI2 := hown2.ints
            have hC := specCon_any (l ++ [y]) ao2 (l.length + 1) cap2 Hhx.out.symm w2 hI2 (by have := Hhx.out; omega)
            cases hc : conB (l ++ [y])
            · rw [hc] at hC
              clear hc hI2 hown2
              go_wp2_with fail
              refine (hC).mono ?_
              rintro e w' ⟨rfl, rfl⟩
              go_wp2_with fail
              go_roundw
              case rel => exact ⟨⟨⟨w2, hB3⟩, rfl⟩, ao, an, ac, 0, j + 1, by omega, by go_num, rfl, rfl, by omega, fun h => by omega⟩
              case measure => simp [intOf]; omega
            · rw [hc] at hC
              obtain ⟨lb2, lo2, rfl, -, -⟩ := hI2 (by have := Hhx.out; omega)
              have hR := Hhih.out (l.length + 1) cap2 ⟨lb2, lo2, none⟩ w2 Hhx.out.symm (HrI.out.below hB3) hI2 (HSn.out hi hc)
              clear hc hI2 hown2
              go_wp2_with fail
              refine (hC).mono ?_
              rintro e w' ⟨rfl, rfl⟩
              go_wp2_with fail
              refine hR.mono ?_
              rintro e w4 ⟨ao4, n4, cap4, k4, rfl, hB4, hk4, hK4⟩
              have hB5 := below_more hB3 hB4
              have HK4 := Lib.hid hK4
              clear hR hC hB4 hK4
              by_cases hk : k4 = 1
              · subst hk
                go_wp2_with fail
                go_roundw
                case rel => exact ⟨⟨⟨w4, hB5⟩, rfl⟩, ao4, n4, cap4, 1, j + 1, by omega, by go_num, rfl, rfl, by omega, fun _ => HK4.out trivial⟩
                case measure => simp [intOf]; omega
              · obtain rfl : k4 = 0 := by omega
                clear hk
                go_wp2_with fail
                go_roundw
                case rel => exact ⟨⟨⟨w4, hB5⟩, rfl⟩, ao, an, ac, 0, j + 1, by omega, by go_num, rfl, rfl, by omega, fun h => by omega⟩
                case measure => simp [intOf]; omega
      · go_wp2_with fail
        go_ret2
        exact ⟨ao, an, ac, kk, rfl, below_later HhB.out m, hkk, HK.out⟩

/-- Such an order of all maximal cliques. -/
theorem GoodO.ivl {rs d : List Int} (g : VG rs) (h : GoodO ((mcN rs).map Int.ofNat) d) (hlen : d.length = ((mcN rs).map Int.ofNat).length) : ∃ d', IvlP rs d' := by
  have hm : ∀ k, k < d.length → ∃ S : Nat, S ∈ mcN rs ∧ gi d k = (S : Int) := fun k hk => by
    obtain ⟨j, hj, e⟩ := h.mem k hk
    rw [List.length_map] at hj
    rw [gi_map _ j hj] at e
    exact ⟨eln (mcN rs) j, eln_mem hj, e⟩
  have hg : ∀ k (hk : k < d.length), gi d k = d[k] := fun k hk => by simp [gi, hk]
  have he : ∀ k, k < d.length → ((eln (d.map Int.toNat) k : Nat) : Int) = gi d k := fun k hk => by
    obtain ⟨S, -, e⟩ := hm k hk
    have e2 : eln (d.map Int.toNat) k = (gi d k).toNat := by simp [eln, gi, hk]
    rw [e2, e]; rfl
  have hnd : (d.map Int.toNat).Nodup := List.pairwise_iff_getElem.2 fun i j hi hj hij e2 => by
    rw [List.length_map] at hi hj
    refine h.dif i j hij hj ?_
    rw [← he i hi, ← he j hj]
    simp only [eln, List.getD_eq_getElem?_getD, List.getElem?_eq_getElem (show i < (d.map Int.toNat).length by simpa using hi), List.getElem?_eq_getElem (show j < (d.map Int.toNat).length by simpa using hj), Option.getD_some, e2]
  have honly : ∀ x ∈ d.map Int.toNat, x ∈ mcN rs := fun x hx => by
    obtain ⟨k, hk, rfl⟩ := mem_eln hx
    rw [List.length_map] at hk
    obtain ⟨S, hS, e⟩ := hm k hk
    have := he k hk
    rw [e] at this
    rw [Int.ofNat.inj this]; exact hS
  refine ⟨d.map Int.toNat, ⟨full_of_nodup _ _ hnd honly (by rw [List.length_map, hlen, List.length_map]; exact Nat.le_refl _), honly, fun v i j k hij hjk hk hi hk2 => ?_⟩⟩
  rw [List.length_map] at hk
  have hc : conB d = true := by
    rcases h.con with e | e
    · omega
    · exact e
  have hv : v < 7 := by
    obtain ⟨S, hS, e⟩ := hm i (by omega)
    have := he i (by omega)
    rw [e] at this
    rw [Int.ofNat.inj this] at hi
    have := (mcN_clique hS).1
    have := testBit_lt this hi
    have := g.le
    omega
  rw [← hasN_nat, he j (by omega)]
  rw [← hasN_nat, he i (by omega)] at hi
  rw [← hasN_nat, he k hk] at hk2
  exact con_between hc hv hij hjk hk hi hk2

/-- A list and whether there is an order of cliques. -/
def RetCO (n : Int) (rs : List Int) (w : World) (e : Ending) (w' : World) : Prop :=
  ∃ (ao : Option Addr) (k cap : Nat) (b : Bool), e = .returned (.tuple #[.slice ao k cap, .bool b]) ∧ Below w.heap.size w w' ∧ (b = true → isGraphB n rs = true ∧ chordalB n rs = true ∧ ∃ d, IvlP rs d)

theorem chordal_graph {n : Int} {rs : List Int} (h : chordalB n rs = true) : isGraphB n rs = true := by
  cases hv : isGraphB n rs
  · unfold chordalB at h
    rw [elimV_no hv] at h; cases h
  · rfl

set_option maxRecDepth 100000 in
set_option maxHeartbeats 2000000 in
theorem specCliqueO_any (n : Int) (rs : List Int) (ro : Option Addr) (rc : Nat) (w : World) (hr : IntsAt w ro rs) (hrl : rs.length ≤ 1048576) :
    Calls Try.prog 43 #[.agg #[.int .i64 n, .slice ro rs.length rc]] w (RetCO n rs w) := by
  go_enter Try.func43, Try.ntmps43
  go_wp2_with fail
  generalize hW : w.alloc _ = W1
  obtain ⟨hB, -, k0⟩ := alloc1 hW
  replace hr := hr.below hB
  have hb0 := k0.lt
  have hc0 := k0.cell 0
  have hc1 := k0.cell 1
  simp at hc0 hc1
  clear hW k0
  have HhB := Lib.hid hB
  clear hB
  obtain ⟨m, hm0⟩ : ∃ m : Later W1, m.w = W1 := ⟨Later.refl _, rfl⟩
  refine (fun h => hm0 ▸ h) ?_
  clear hm0
  have hC := fun m : Later W1 => specChordal_any n rs ro rc m.w (hr.later m) hrl
  cases hc : chordalB n rs
  · rw [hc] at hC
    go_wp2_with (first | (go_at_call 16; refine (Calls.later m (hC m)).mono ?_; rintro e w' ⟨rfl, m, rfl⟩))
    go_ret2
    exact ⟨_, 0, 0, false, rfl, (below_later HhB.out m).alloc (below_later HhB.out m).size _, fun h => by cases h⟩
  · rw [hc] at hC
    have hv := chordal_graph hc
    have hM := fun m : Later W1 => specMaxCl_any n rs ro rc m.w (hr.later m) hrl
    have hml := mcV_len n rs
    have HE : Hid (mcV n rs = (mcN rs).map Int.ofNat) := Lib.hid (by unfold mcV; rw [if_pos hv])
    have Hg := Lib.hid (VG.of hv).2
    have Hhv := Lib.hid hv
    have Hhc := Lib.hid hc
    clear hv hc
    generalize mcV n rs = l at *
    go_wp2_with (first | (go_at_call 16; refine (Calls.later m (hC m)).mono ?_; rintro e w' ⟨rfl, m, rfl⟩) | (go_at_call 74; refine (hM m).mono ?_; rintro e w2 ⟨lo, lc, rfl, hB2, hL⟩))
    obtain ⟨m, rfl⟩ : ∃ m2 : Later W1, m2.w = w2 := ⟨m.on hB2, rfl⟩
    clear hB2 hC hM
    generalize hW3 : World.alloc _ _ = W3
    obtain ⟨hB3, -, -⟩ := alloc1 hW3
    have hS := l10Search_any l hml lo l.length lc rfl l.length [] 0 0 ⟨m.w.heap.size, 0, none⟩ W3 (by simp) rfl (hL.below hB3) (fun h => absurd h (by simp)) ⟨fun k h => absurd h (by simp), fun i j h1 h2 => absurd h2 (by simp), .inl rfl⟩
    have hBB := below_more' (below_later HhB.out m) hB3
    clear hW3 hL
    refine hS.mono ?_
    rintro e w4 ⟨ao, k, cap, u, rfl, hB4, hu, hd⟩
    replace hBB := below_more' hBB hB4
    have HBB := Lib.hid hBB
    have Hd := Lib.hid hd
    clear hS hBB hB4 hB3 hd
    by_cases h1 : u = 1
    · subst h1
      go_wp2_with fail
      go_ret2
      refine ⟨ao, k, cap, true, rfl, HBB.out, fun _ => ⟨Hhv.out, Hhc.out, ?_⟩⟩
      obtain ⟨d, h2, h3⟩ := Hd.out trivial
      rw [HE.out] at h2 h3
      exact h2.ivl Hg.out h3
    · obtain rfl : u = 0 := by omega
      go_wp2_with fail
      go_ret2
      exact ⟨ao, k, cap, false, rfl, HBB.out, fun h => by cases h⟩

set_option maxHeartbeats 1000000 in
theorem specIvl_any (n : Int) (rs : List Int) (ro : Option Addr) (rc : Nat) (w : World) (hr : IntsAt w ro rs) (hrl : rs.length ≤ 1048576) :
    Calls Try.prog 17 #[.agg #[.int .i64 n, .slice ro rs.length rc]] w fun e w' => ∃ b : Bool, e = .returned (.bool b) ∧ Below w.heap.size w w' ∧ (b = true → isGraphB n rs = true ∧ chordalB n rs = true ∧ ∃ d, IvlP rs d) := by
  go_enter Try.func17, Try.ntmps17
  go_wp2_with fail
  generalize hW : w.alloc _ = W1
  obtain ⟨hB, -, k0⟩ := alloc1 hW
  replace hr := hr.below hB
  have hb0 := k0.lt
  have hc0 := k0.cell 0
  have hc1 := k0.cell 1
  simp at hc0 hc1
  clear hW k0
  have HhB := Lib.hid hB
  clear hB
  refine (specCliqueO_any n rs ro rc W1 hr hrl).mono ?_
  rintro e w2 ⟨ao, k, cap, b, rfl, hB2, hb⟩
  have hBB := below_more' HhB.out hB2
  clear hB2
  have HhBB := Lib.hid hBB
  clear hBB
  have Hhb := Lib.hid hb
  clear hb
  go_wp2_with fail
  go_ret
  exact ⟨b, rfl, HhBB.out, Hhb.out⟩

end Go.Proofs.Ytfkehmpckhmkbaa

namespace Go.Proofs.Ytfkehmpckhmkbaa
open Go.RowKit

set_option maxHeartbeats 400000 in
theorem lawSameInts_any (ao bo : Option Addr) (xs ys : List Int) (c d : Nat) (w : World) (hx : IntsAt w ao xs) (hy : IntsAt w bo ys) (hn : xs.length ≤ 140737488351232) (hm : ys.length ≤ 140737488351232) :
    Calls Try.prog 28 #[.slice ao xs.length c, .slice bo ys.length d] w fun e w' => e = .returned (.bool (sameInts xs ys)) ∧ Below w.heap.size w w' := by
  by_cases hl : xs.length = ys.length
  · have hb : ((xs.length : Int) != ys.length) = false := by rw [hl]; simp
    have HL := Lib.hid hl
    clear hl
    go_enter Try.func28, Try.ntmps28
    go_wp2_with fail
    go_loopw [5] (fun i wr => (∃ m : Later w, wr = m.w) ∧ ∃ k : Nat, k ≤ xs.length ∧ i = .int .i64 k ∧ ∀ j, j < k → gi xs j = gi ys j) (fun i _ => xs.length - (intOf i).toNat)
    case atStart => exact ⟨⟨Later.refl _, rfl⟩, 0, by omega, rfl, fun j h => by omega⟩
    case round =>
      obtain ⟨⟨m, rfl⟩, k, hk, rfl, hP⟩ := hrel
      have HP := Lib.hid hP
      clear hP
      by_cases hlt : k < xs.length
      · have hlt' : k < ys.length := by rw [← HL.out]; exact hlt
        obtain ⟨b, off, rfl, hbl, hc⟩ := hx (by omega)
        obtain ⟨b2, off2, rfl, hbl2, hc2⟩ := hy (by omega)
        go_wp2_with fail
        cases he : (gi xs k != gi ys k)
        all_goals
          refine wp_region_later m rfl (by kernel_rfl) (by kernel_rfl) ?_
          repeat (go_big_quiet_step (fail))
          refine wpQuiet_nil ?_
          rintro _ ⟨m, rfl⟩
          go_wp2_with fail
        · go_roundw
          case rel =>
            refine ⟨⟨m, rfl⟩, k + 1, by omega, by go_num, fun j hj => ?_⟩
            rcases Nat.lt_succ_iff_lt_or_eq.1 hj with hj | rfl
            · exact HP.out j hj
            · simpa using he
          case measure => simp [intOf]; omega
        · go_ret
          exact ⟨retB (by rw [sameInts_at (by simpa using he)]), m.below⟩
      · go_wp2_with fail
        go_ret
        exact ⟨retB (by rw [sameInts_all HL.out (fun j hj => HP.out j (by omega))]), m.below⟩
  · have hb : ((xs.length : Int) != ys.length) = true := by simp; omega
    have HL := Lib.hid hl
    clear hl
    go_enter Try.func28, Try.ntmps28
    go_wp2_with fail
    go_ret
    exact ⟨retB (by rw [sameInts_len HL.out]), Below.refl _ _⟩

end Go.Proofs.Ytfkehmpckhmkbaa
