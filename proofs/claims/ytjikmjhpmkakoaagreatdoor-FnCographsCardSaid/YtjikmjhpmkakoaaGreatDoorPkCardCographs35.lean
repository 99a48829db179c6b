/-
  GraphOfCotree of the reference. For texts of at most 60 bytes.
  Modules of the reference: IsModule, ModulesOf, StrongModules, KindOf, as far as FnCographs asks: of a graph without a path of four vertices no kind is prime. For graphs.
  The kit's contract of slices.Sort at []int, laid at this program in plain words (by the shelf's two programs). No conditions.
  Lists that hold each number below their length once: the two ways to tell. Then impl.sorted, isShuffle, IsPermutation of both sides. For at most 2^20 elements.
-/
import Derived.Test.YtjikmjhpmkakoaaGreatDoorPkCardCographs34
import Derived.Test.YtjikmjhpmkakoaaGreatDoorPkCardCographs31
import Derived.Test.YtjikmjhpmkakoaaGreatDoorPkCardCographs24
import Derived.Test.YtjikmjhpmkakoaaGreatDoorPkCardCographs26
import Derived.Shelf.Sort.Plain
import Derived.Lib.SortBridge
import Derived.Test.YtjikmjhpmkakoaaGreatDoorPkCardCographs12
import Derived.Test.YtjikmjhpmkakoaaGreatDoorPkCardCographs13
import Derived.Lib.SmallJoins
namespace Go.Proofs.YtjikmjhpmkakoaaGreatDoor
open Go.RowKit

theorem digN_take {L : List UInt8} {i : Nat} (h : i < L.length) : digN (L.take (i + 1)) = digN (L.take i) + (if (decide (48 ≤ (L.getD i 0).toNat) && decide ((L.getD i 0).toNat ≤ 54)) = true then 1 else 0) := by
  rw [List.take_add_one, List.getElem?_eq_getElem h]
  unfold digN
  rw [List.countP_append]
  simp [h, List.countP_cons]
theorem digN_le (L : List UInt8) : digN L ≤ L.length := List.countP_le_length
theorem strZ_eq {a b : ByteArray} (h : a = b) : (a.toList == b.toList) = true := by rw [h]; simp
theorem strZ_ne {a b : ByteArray} (h : ¬a = b) : (a.toList == b.toList) = false := by
  rw [beq_eq_false_iff_ne, ByteArray.toList_eq, ByteArray.toList_eq]
  intro e
  exact h (ByteArray.ext (Array.toList_inj.1 e))
/-- The reference's last checks tell. -/
theorem gotS_ct {L : List UInt8} {f : List Int} {S q : Nat} (hg : gotS L = some (f, S, q)) (h : ∃ f', IsCt L f') : q = L.length ∧ S = 2 ^ (digN L) - 1 ∧ IsCt L f := by
  obtain ⟨f', h⟩ := h
  obtain ⟨h1, h2⟩ := h.gotS
  rw [hg] at h2
  simp only [Option.some.injEq, Prod.mk.injEq] at h2
  obtain ⟨rfl, rfl, rfl⟩ := h2
  exact ⟨rfl, by rw [h1], h⟩
theorem ct_of {L : List UInt8} {n : Nat} {f : List Int} (hn : f.length = n) (hc : cogB n f = true) (ht : ctS n f = bs L) : IsCt L f := by
  subst hn
  rw [ctS_of hc] at ht
  have hg := cogB_graph hc
  exact ⟨hg, (cog_iff hg).1 hc, (bs_inj ht).symm⟩
theorem ct_back {L : List UInt8} {n : Nat} {f : List Int} (hn : f.length = n) (h : IsCt L f) : cogB n f = true ∧ ctS n f = bs L := by
  subst hn
  have hc : cogB f.length f = true := (cog_iff h.graph).2 h.free
  exact ⟨hc, by rw [ctS_of hc, ← h.text]⟩

set_option maxRecDepth 100000 in
set_option maxHeartbeats 4000000 in
theorem specGoc_any (L : List UInt8) (hL : L.length ≤ 60) (w : World) :
    Calls Tryz.prog 39 #[.string (bs L)] w (RetGc L w) := by
  have hz := bs_size L
  have HT := Lib.hid (fun (i : Nat) (h : i < L.length) => digN_take (L := L) (i := i) h)
  have HGe := Lib.hid (bs_get L)
  go_enter Tryz.func39, Tryz.ntmps39
  go_upto_region 3 with fail
  generalize hW : World.alloc _ _ = W1
  obtain ⟨hB, hs, k0⟩ := alloc1 hW
  clear hW
  have HhB := Lib.hid hB
  clear hB
  have Hk0 := Lib.hid k0
  clear k0
  go_loopw [4, 5] (fun n i wr => wr = W1 ∧ ∃ k : Nat, i = .int .i64 (k : Int) ∧ k ≤ L.length ∧ n = .int .i64 ((digN (L.take k) : Nat) : Int)) (fun _ i _ => L.length - (intOf i).toNat)
  case atStart => exact ⟨rfl, 0, rfl, by omega, by simp [digN]⟩
  case round =>
    obtain ⟨rfl, k, rfl, hk, rfl⟩ := hrel
    by_cases hlt : k < L.length
    · have hks : k < (bs L).size := by omega
      have e0 : decide ((k : Int) < (L.length : Int)) = true := decide_eq_true (by omega)
      have hst := HT.out k hlt
      rw [HGe.out k hks] at hst
      have hdl := digN_le (L.take k)
      rw [List.length_take] at hdl
      by_cases h48 : 48 ≤ ((bs L)[k]'hks).toNat
      · have d1 : decide (48 ≤ (((bs L)[k]'hks).toNat : Int)) = true := decide_eq_true (by omega)
        rw [decide_eq_true h48, Bool.true_and] at hst
        by_cases h54 : ((bs L)[k]'hks).toNat ≤ 54
        · have d2 : decide ((((bs L)[k]'hks).toNat : Int) ≤ 54) = true := decide_eq_true (by omega)
          rw [decide_eq_true h54, if_pos rfl] at hst
          generalize digN (L.take k) = D at *
          have HS := Lib.hid hst
          clear hst
          go_wp2_with fail
          go_roundw
          case rel => exact ⟨by trivial, k + 1, by go_num, by omega, by rw [HS.out]; go_num⟩
          case measure => simp [intOf]; omega
        · have d2 : decide ((((bs L)[k]'hks).toNat : Int) ≤ 54) = false := decide_eq_false (by omega)
          rw [decide_eq_false h54, if_neg (by decide)] at hst
          generalize digN (L.take k) = D at *
          have HS := Lib.hid hst
          clear hst
          go_wp2_with fail
          go_roundw
          case rel => exact ⟨by trivial, k + 1, by go_num, by omega, by rw [HS.out]; go_num⟩
          case measure => simp [intOf]; omega
      · have d1 : decide (48 ≤ (((bs L)[k]'hks).toNat : Int)) = false := decide_eq_false (by omega)
        rw [decide_eq_false h48, Bool.false_and, if_neg (by decide)] at hst
        generalize digN (L.take k) = D at *
        have HS := Lib.hid hst
        clear hst
        go_wp2_with fail
        go_roundw
        case rel => exact ⟨by trivial, k + 1, by go_num, by omega, by rw [HS.out]; go_num⟩
        case measure => simp [intOf]; omega
    · obtain rfl : k = L.length := by omega
      have e0 : decide ((L.length : Int) < (L.length : Int)) = false := decide_eq_false (by omega)
      rw [List.take_length]
      have hD := digN_le L
      have HC := Lib.hid fun (f : List Int) (h : IsCt L f) => h.gotS.1
      have HG : Hid (∀ (f : List Int) (S q : Nat), gotS L = some (f, S, q) → (∃ f', IsCt L f') → q = L.length ∧ S = 2 ^ (digN L) - 1 ∧ IsCt L f) := Lib.hid fun f S q => gotS_ct
      have HN : Hid (gotS L = none → ∀ f, ¬IsCt L f) := Lib.hid fun h f h2 => by rw [h2.gotS.2] at h; cases h
      have hRd : ∀ (gb : Nat) (w' : World), 1 ≤ digN L → digN L ≤ 7 → RowAt w' gb (digN L) (zerosG (digN L)) → Calls Tryz.prog 97 #[.string (bs L), .int .i64 0, .agg #[.int .i64 (digN L : Nat), .slice (some ⟨gb, 0, none⟩) (digN L) (digN L)]] w' (RetRd (gotS L) w') := fun gb w' h1 h7 hR =>
        specRead_any L hL (digN L) (L.length + 1) (L.length + 1) 0 (zerosG (digN L)) gb (digN L) w' (Nat.le_refl _) (zerosG_VG h1 h7) (by simp [zerosG]) (by omega) (by omega) hR
      have hOk : 1 ≤ digN L → digN L ≤ 7 → RdSOk (digN L) L 0 (gotS L) := fun h1 h7 => by
        have := rdS_ok L (L.length + 1) none (zerosG (digN L)) 0 (zerosG_VG h1 h7) (by omega) (fun x e => by cases e)
        rw [show (zerosG (digN L)).length = digN L by simp [zerosG]] at this
        exact this
      generalize gotS L = R at *
      generalize digN L = D at *
      have hIn := fun w' : World => l1In_any (D : Int) 1 7 w'
      have x0 := Hk0.out.cell 0
      have x1 := Hk0.out.cell 1
      have x2 := Hk0.out.frozen 0
      have x3 := Hk0.out.frozen 1
      have xl := Hk0.out.lt
      simp at x0 x1
      have e6 : decide (60 < (L.length : Int)) = false := decide_eq_false (by omega)
      by_cases hr : 1 ≤ D ∧ D ≤ 7
      · have d1 : (decide ((1 : Int) ≤ (D : Int)) && decide ((D : Int) ≤ 7)) = true := by rw [Bool.and_eq_true, decide_eq_true_eq, decide_eq_true_eq]; omega
        rw [d1] at hIn
        have hmk := run_make_ints D (by omega)
        replace hRd := fun (gb : Nat) (w' : World) => hRd gb w' hr.1 hr.2
        replace hOk := hOk hr.1 hr.2
        go_upto_region 9 with (first | (go_at_call 54; refine (hIn _).mono ?_; rintro e w' ⟨rfl, rfl⟩))
        clear hIn d1 e6 e0 HC
        go_wp2_with fail
        generalize hW : World.alloc _ _ = W2
        obtain ⟨hB2, hs2, kR⟩ := alloc1 hW
        rw [hs] at kR
        have hR2 : RowAt W2 (w.heap.size + 1) D (zerosG D) := by
          have := RowAt.of (w := W2) (b := w.heap.size + 1) (xs := zerosG D) kR (by simp [zerosG]; omega)
          simpa [zerosG] using this
        have k0 := Hk0.out.below hB2 Hk0.out.lt
        have HE := Lib.hid (HhB.out.trans (hB2.mono HhB.out.size))
        have hRd2 := hRd _ W2 hR2
        clear hW kR hs2 hB2 hR2 hRd hmk x0 x1 x2 x3 xl Hk0 HhB
        refine hRd2.mono ?_
        rintro e w3 ⟨hB3, hRet⟩
        clear hRd2
        cases R with
        | none =>
          obtain ⟨N3, ao3, c3, k3, rfl⟩ := hRet
          have hno := HN.out rfl
          clear HG HN hOk
          have Hhno := Lib.hid hno
          clear hno
          go_upto_region 10 with fail
          generalize hW4 : World.alloc _ _ = W4
          obtain ⟨hB4, hs4, k4⟩ := alloc1 hW4
          have hBx := below_more hB3 hB4
          have HE4 := Lib.hid (HE.out.trans (hBx.mono HE.out.size))
          have k7 := k0.below hBx k0.lt
          have x0 := k7.cell 0
          have x1 := k7.cell 1
          have x2 := k7.frozen 0
          have x3 := k7.frozen 1
          have xl := k7.lt
          simp at x0 x1
          generalize w3.heap.size = gB at *
          clear hW4 hB4 hB3 k4 hs4 hBx k7 k0 HE
          have e9 : ((-1 : Int) != (L.length : Int)) = true := by rw [bne_iff_ne]; omega
          go_wp2_with fail
          refine bodyPost_ret (v := .tuple #[.agg #[.int .i64 0, .slice none 0 0], .bool false]) (by simp [results, Tryz.results39, go_sem, x0, x1, x2, x3, xl]) rfl ?_
          exact ⟨(HE4.out.setCell (by simp) _).setCell (by simp) _, .inr ⟨rfl, Hhno.out⟩⟩
        | some v =>
          obtain ⟨f, S, q⟩ := v
          obtain ⟨gb, cap, rfl, hRow⟩ := hRet
          obtain ⟨gf, hfn, hS, -, hqL⟩ := hOk f S q rfl
          replace HG := Lib.hid (HG.out f S q rfl)
          rw [hfn]
          clear HN hOk
          go_upto_region 10 with fail
          generalize hW4 : World.alloc _ _ = W4
          obtain ⟨hB4, hs4, k4⟩ := alloc1 hW4
          have hBx := below_more hB3 hB4
          have HE4 := Lib.hid (HE.out.trans (hBx.mono HE.out.size))
          have hRow4 := hRow.below hB4
          have k7 := k0.below hBx k0.lt
          have x0 := k7.cell 0
          have x1 := k7.cell 1
          have x2 := k7.frozen 0
          have x3 := k7.frozen 1
          have xl := k7.lt
          simp at x0 x1
          have g0 := k4.cell 0
          have g1 := k4.cell 1
          have gl := k4.lt
          simp at g0 g1
          generalize w3.heap.size = gB at *
          clear hW4 hB4 hB3 hs4 hBx k0 HE hRow
          by_cases hq : q = L.length
          · subst hq
            have e9 : ((L.length : Int) != (L.length : Int)) = false := by simp
            have hpw := pwN_small D (by omega)
            have h2p := Nat.two_pow_pos D
            have h27 : 2 ^ D ≤ 2 ^ 7 := Nat.pow_le_pow_right (by decide) (by omega)
            have hw64 : wrap64 (pwN D - 1) = ((2 ^ D - 1 : Nat) : Int) := by
              rw [hpw, IntWalk.wrap64_in _ ⟨by omega, by omega⟩]; omega
            by_cases hS2 : S = 2 ^ D - 1
            · have e10 : ((S : Int) != wrap64 (pwN D - 1)) = false := by rw [hw64, bne_eq_false_iff_eq]; omega
              clear hpw hw64 h27
              have hCt := fun (w' : World) (h : Below W4.heap.size W4 w') => specCotree_any D f (some ⟨gb, 0, none⟩) cap w' (hRow4.below h).ints (by omega)
              rw [hfn] at hCt
              have hTo := fun h1 h2 => ct_of (L := L) hfn h1 h2
              have hBk := fun h => ct_back (L := L) hfn h
              have HhRow4 := Lib.hid hRow4
              clear hRow4
              have Hk4 := Lib.hid k4
              clear k4
              have Hk7 := Lib.hid k7
              clear k7
              clear h2p hS2
              go_wp2_with fail
              refine (hCt W4 (Below.refl _ _)).mono ?_
              rintro e w5 ⟨rfl, hB5⟩
              have k7 := Hk7.out.below hB5 Hk7.out.lt
              have k4 := Hk4.out.below hB5 Hk4.out.lt
              have hRow5 := HhRow4.out.below hB5
              have HE5 := Lib.hid (HE4.out.trans (hB5.mono HE4.out.size))
              have hRs := hRow5.onlyP2 (((Only.refl (fun b => b = w.heap.size) _ _).setCell (p := ⟨w.heap.size, 0, none⟩) (.inl rfl) (.int .i64 D)).setCell (p := ⟨w.heap.size, 1, none⟩) (.inl rfl) (.slice (some ⟨gb, 0, none⟩) D cap)) (row_ne hRow5 k7)
              clear x0 x1 x2 x3 xl g0 g1 gl hCt
              have x0 := k7.cell 0
              have x1 := k7.cell 1
              have x2 := k7.frozen 0
              have x3 := k7.frozen 1
              have xl := k7.lt
              have g0 := k4.cell 0
              have g1 := k4.cell 1
              have gl := k4.lt
              simp at x0 x1 g0 g1
              clear k7 k4 hB5 Hk7 Hk4 HhRow4 HE4
              generalize cogB D f = cg at *
              generalize ctS D f = ct at *
              have HhRs := Lib.hid hRs
              clear hRs
              have HhRow5 := Lib.hid hRow5
              clear hRow5
              cases cg
              · have hno : ∀ f', ¬IsCt L f' := fun f' h => by
                  have := (hBk (HG.out ⟨f', h⟩).2.2).1
                  cases this
                clear HG hTo hBk
                have Hhno := Lib.hid hno
                clear hno
                go_wp2_with fail
                refine bodyPost_ret (v := .tuple #[.agg #[.int .i64 0, .slice none 0 0], .bool false]) (by simp [results, Tryz.results39, go_sem, x0, x1, x2, x3, xl]) rfl ?_
                exact ⟨(HE5.out.setCell (by simp) _).setCell (by simp) _, .inr ⟨rfl, Hhno.out⟩⟩
              · by_cases hct : ct = bs L
                · have hIs := hTo rfl hct
                  have d3 := strZ_eq hct
                  clear HG hTo hBk hct
                  have HhIs := Lib.hid hIs
                  clear hIs
                  go_wp2_with fail
                  refine bodyPost_ret (v := .tuple #[.agg #[.int .i64 D, .slice (some ⟨gb, 0, none⟩) D cap], .bool true]) (by simp [results, Tryz.results39, go_sem, x0, x1, x2, x3, xl]) rfl ?_
                  exact ⟨(HE5.out.setCell (by simp) _).setCell (by simp) _, .inl ⟨f, _, cap, by rw [hfn], HhIs.out, HhRs.out.ints⟩⟩
                · have hno : ∀ f', ¬IsCt L f' := fun f' h => hct (hBk (HG.out ⟨f', h⟩).2.2).2
                  have d3 := strZ_ne hct
                  clear HG hTo hBk hct
                  have Hhno := Lib.hid hno
                  clear hno
                  go_wp2_with fail
                  refine bodyPost_ret (v := .tuple #[.agg #[.int .i64 0, .slice none 0 0], .bool false]) (by simp [results, Tryz.results39, go_sem, x0, x1, x2, x3, xl]) rfl ?_
                  exact ⟨(HE5.out.setCell (by simp) _).setCell (by simp) _, .inr ⟨rfl, Hhno.out⟩⟩
            · have hno : ∀ f, ¬IsCt L f := fun f h => hS2 (HG.out ⟨f, h⟩).2.1
              have e10 : ((S : Int) != wrap64 (pwN D - 1)) = true := by rw [hw64, bne_iff_ne]; omega
              clear HG hpw hw64 h27
              have Hhno := Lib.hid hno
              clear hno
              have HhRow4 := Lib.hid hRow4
              clear hRow4
              have Hk4 := Lib.hid k4
              clear k4
              have Hk7 := Lib.hid k7
              clear k7
              clear h2p hS2
              go_wp2_with fail
              refine bodyPost_ret (v := .tuple #[.agg #[.int .i64 0, .slice none 0 0], .bool false]) (by simp [results, Tryz.results39, go_sem, x0, x1, x2, x3, xl]) rfl ?_
              exact ⟨(HE4.out.setCell (by simp) _).setCell (by simp) _, .inr ⟨rfl, Hhno.out⟩⟩
          · have hno : ∀ f, ¬IsCt L f := fun f h => hq (HG.out ⟨f, h⟩).1
            have e9 : ((q : Int) != (L.length : Int)) = true := by rw [bne_iff_ne]; omega
            clear HG
            have Hhno := Lib.hid hno
            clear hno
            have HhRow4 := Lib.hid hRow4
            clear hRow4
            have Hk4 := Lib.hid k4
            clear k4
            have Hk7 := Lib.hid k7
            clear k7
            go_wp2_with fail
            refine bodyPost_ret (v := .tuple #[.agg #[.int .i64 0, .slice none 0 0], .bool false]) (by simp [results, Tryz.results39, go_sem, x0, x1, x2, x3, xl]) rfl ?_
            exact ⟨(HE4.out.setCell (by simp) _).setCell (by simp) _, .inr ⟨rfl, Hhno.out⟩⟩
      · have hno : ∀ f, ¬IsCt L f := fun f h => hr (by
          have h2 := HC.out f h
          have g := (VG.of h.graph).2
          have := g.pos
          have := g.le
          omega)
        have d1 : (decide ((1 : Int) ≤ (D : Int)) && decide ((D : Int) ≤ 7)) = false := by rw [Bool.and_eq_false_iff, decide_eq_false_iff_not, decide_eq_false_iff_not]; omega
        rw [d1] at hIn
        clear hRd hOk HN HG HC
        have Hhno := Lib.hid hno
        clear hno
        go_wp2_with (first | (go_at_call 54; refine (hIn _).mono ?_; rintro e w' ⟨rfl, rfl⟩))
        refine bodyPost_ret (v := .tuple #[.agg #[.int .i64 0, .slice none 0 0], .bool false]) (by simp [results, Tryz.results39, go_sem, x0, x1, x2, x3, xl]) rfl ?_
        exact ⟨(HhB.out.setCell (by simp) _).setCell (by simp) _, .inr ⟨rfl, Hhno.out⟩⟩

end Go.Proofs.YtjikmjhpmkakoaaGreatDoor

namespace Go.Proofs.YtjikmjhpmkakoaaGreatDoor
open Go.RowKit

/-- Some Bool. -/
def RetBo (w : World) (e : Ending) (w' : World) : Prop := ∃ b : Bool, e = .returned (.bool b) ∧ Below w.heap.size w w'
/-- A list of sets, none empty, in memory of the call's own. -/
def RetSs (N : Nat) (w : World) (e : Ending) (w' : World) : Prop := ∃ ao cap, ∃ l : List Nat, e = .returned (.slice ao (ints l).length cap) ∧ l.length ≤ 128 ∧ (∀ S ∈ l, 1 ≤ S ∧ S < 2 ^ N) ∧ Below w.heap.size w w' ∧ OwnE w' w.heap.size ao cap (ints l)

set_option maxRecDepth 100000 in
set_option maxHeartbeats 2000000 in
theorem specIsMod_any (rs : List Int) (S : Nat) (ro : Option Addr) (rc : Nat) (w : World) (hr : IntsAt w ro rs) (hv : isGraphB rs.length rs = true) (hS : S < 2 ^ rs.length) (h1 : 1 ≤ S) :
    Calls Tryz.prog 133 #[.agg #[.int .i64 rs.length, .slice ro rs.length rc], .int .i64 S] w (RetBo w) := by
  have g := (VG.of hv).2
  have hg2 := g.le
  have h7 : S < 128 := by have := g.pow.1; omega
  have hset := isSetB_mk hv hS
  have h0 : ((S : Int) == 0) = false := by rw [beq_eq_false_iff_ne]; omega
  have hI := fun (w' : World) (h : IntsAt w' ro rs) => specIsSet_any rs.length rs S ro rc w' h (by omega)
  rw [hset] at hI
  have hL := fun w' : World => specListN_any S h7 w'
  have hel := fun j (hj : j < cnt S) => (els_at hS g.le hj).1
  have hc0' : 1 ≤ cnt S := by have := cnt_zero h7 (show S ≠ 0 by omega); omega
  have hcl := cnt_le S
  go_enter Tryz.func133, Tryz.ntmps133
  go_wp2_with fail
  generalize hW : w.alloc _ = W1
  obtain ⟨hB, -, k0⟩ := alloc1 hW
  replace hr := hr.below hB
  have hb0 := k0.lt
  have hc0 := k0.cell 0
  have hc1 := k0.cell 1
  simp at hc0 hc1
  clear hW k0
  have HhB := Lib.hid hB
  clear hB
  obtain ⟨m, hm0⟩ : ∃ m : Later W1, m.w = W1 := ⟨Later.refl _, rfl⟩
  refine (fun h => hm0 ▸ h) ?_
  clear hm0
  go_wp2_with fail
  refine (Calls.later m (hI m.w (hr.later m))).mono ?_
  rintro e w' ⟨rfl, m, rfl⟩
  clear hI
  go_wp2_with fail
  refine (hL m.w).mono ?_
  rintro e w2 ⟨lo, lc, rfl, hB2, hN⟩
  obtain ⟨b, off, rfl, hb, hcl2⟩ := hN (by have e : (els S).length = cnt S := rfl; omega)
  obtain ⟨m, rfl⟩ : ∃ m2 : Later W1, m2.w = w2 := ⟨m.on hB2, rfl⟩
  clear hB2 hL hN
  replace hr := hr.later m
  replace hc0 : m.w.cell? _ = _ := (m.cell _ _ hb0).trans hc0
  replace hc1 : m.w.cell? _ = _ := (m.cell _ _ hb0).trans hc1
  replace hb0 := Nat.lt_of_lt_of_le hb0 m.size
  replace HhB := Lib.hid (below_later HhB.out m)
  generalize m.w = W2 at *
  clear m
  obtain ⟨rb, rofs, hro, hrb, hrc⟩ := hr.graph g
  subst hro
  have z0 := hcl2 0 (by have e : (els S).length = cnt S := rfl; omega)
  have hl0 := hel 0 (by omega)
  have hr0 := hrc _ hl0
  have hgn0 := g.lt128 hl0
  have hg0 : gn rs (eln (els S) 0) ||| S < 128 := or_lt7 hgn0 h7
  have p1 : bits .or .i64 (gn rs (eln (els S) 0) : Int) (S : Int) = ((gn rs (eln (els S) 0) ||| S : Nat) : Int) := bits_or_nat _ _ (by omega) (by omega)
  generalize gn rs (eln (els S) 0) ||| S = A0 at *
  generalize gn rs (eln (els S) 0) = G0 at *
  generalize eln (els S) 0 = v0 at *
  rw [Nat.add_zero] at z0
  go_wp2_with fail
  go_loopw [6] (fun i wr => (∃ m : Later W2, wr = m.w) ∧ ∃ k : Nat, 1 ≤ k ∧ k ≤ cnt S ∧ i = .int .i64 k) (fun i _ => cnt S - (intOf i).toNat)
  case atStart => exact ⟨⟨Later.refl _, rfl⟩, 1, by omega, hc0', rfl⟩
  case round =>
    obtain ⟨⟨m, rfl⟩, k, hk1, hk, rfl⟩ := hrel
    by_cases hlt : k < cnt S
    · have zk := hcl2 k hlt
      have hlk := hel k hlt
      have hrk := hrc _ hlk
      have hgnk := g.lt128 hlk
      have hgk : gn rs (eln (els S) k) ||| S < 128 := or_lt7 hgnk h7
      have pk : bits .or .i64 (gn rs (eln (els S) k) : Int) (S : Int) = ((gn rs (eln (els S) k) ||| S : Nat) : Int) := bits_or_nat _ _ (by omega) (by omega)
      clear hcl2 hel hrc
      generalize gn rs (eln (els S) k) ||| S = Ak at *
      generalize gn rs (eln (els S) k) = Gk at *
      generalize eln (els S) k = vk at *
      cases hne : (((Ak : Int) - (S : Int)) != ((A0 : Int) - (S : Int)))
      · go_wp2_with fail
        refine wp_region_later m rfl (by kernel_rfl) (by kernel_rfl) ?_
        repeat (go_big_quiet_step (fail))
        refine wpQuiet_nil ?_
        rintro _ ⟨m, rfl⟩
        go_wp2_with fail
        go_roundw
        case rel => exact ⟨⟨m, rfl⟩, k + 1, by omega, by omega, by go_num⟩
        case measure => simp [intOf]; omega
      · go_wp2_with fail
        refine wp_region_later m rfl (by kernel_rfl) (by kernel_rfl) ?_
        repeat (go_big_quiet_step (fail))
        refine wpQuiet_nil ?_
        rintro _ ⟨m, rfl⟩
        go_wp2_with fail
        go_ret
        exact ⟨false, rfl, below_later HhB.out m⟩
    · clear hcl2 hel hrc
      go_wp2_with fail
      go_ret
      exact ⟨true, rfl, below_later HhB.out m⟩

set_option maxRecDepth 100000 in
set_option maxHeartbeats 2000000 in
theorem specMods_any (rs : List Int) (ro : Option Addr) (rc : Nat) (w : World) (hr : IntsAt w ro rs) (hv : isGraphB rs.length rs = true) :
    Calls Tryz.prog 132 #[.agg #[.int .i64 rs.length, .slice ro rs.length rc]] w (RetSs rs.length w) := by
  have g := (VG.of hv).2
  have hg2 := g.le
  obtain ⟨hp1, hp2⟩ := g.pow
  have hq := pwN_small rs.length (by omega)
  have hG := fun (w' : World) (h : IntsAt w' ro rs) => specIsGraph_any rs.length rs ro rc w' h (by omega)
  rw [hv] at hG
  have HM := Lib.hid (fun (S : Nat) (w' : World) (h : IntsAt w' ro rs) (h1 : S < 2 ^ rs.length) (h2 : 1 ≤ S) => specIsMod_any rs S ro rc w' h hv h1 h2)
  go_enter Tryz.func132, Tryz.ntmps132
  go_wp2_with fail
  generalize hW : w.alloc _ = W1
  obtain ⟨hB, -, k0⟩ := alloc1 hW
  replace hr := hr.below hB
  have hb0 := k0.lt
  have hc0 := k0.cell 0
  have hc1 := k0.cell 1
  simp at hc0 hc1
  clear hW k0
  have HhB := Lib.hid hB
  clear hB
  generalize hW2 : W1.alloc _ = W2
  obtain ⟨hB2, -, -⟩ := alloc1 hW2
  replace hr := hr.below hB2
  replace hc0 := (hB2.cell (p := ⟨w.heap.size, 0, none⟩) hb0).trans hc0
  replace hc1 := (hB2.cell (p := ⟨w.heap.size, 1, none⟩) hb0).trans hc1
  replace hb0 := Nat.lt_of_lt_of_le hb0 hB2.size
  replace HhB := Lib.hid (below_more' HhB.out hB2)
  clear hB2 hW2
  have hO := OwnE.empty W2 W2.heap.size ⟨w.heap.size + 1, 0, none⟩
  generalize (⟨w.heap.size + 1, 0, none⟩ : Addr) = na at *
  generalize hT : 2 ^ rs.length = T at *
  have HhO := Lib.hid hO
  clear hO
  have HhT := Lib.hid hT
  clear hT
  go_loopw [3, 4] (fun o i wr => ∃ m : Later W2, wr = m.w ∧ ∃ (k : Nat) (l : List Nat) (ao : Option Addr) (cap : Nat), 1 ≤ k ∧ k ≤ T ∧ l.length < k ∧ (∀ S ∈ l, 1 ≤ S ∧ S < T) ∧ i = .int .i64 k ∧ o = .slice ao (ints l).length cap ∧ OwnE m.w W2.heap.size ao cap (ints l)) (fun _ i _ => T - (intOf i).toNat)
  case atStart => exact ⟨Later.refl _, rfl, 1, [], _, _, Nat.le_refl _, by omega, by simp, by simp, rfl, rfl, HhO.out⟩
  case round =>
    obtain ⟨m, rfl, k, l, ao, cap, hk1, hk, hll, hall, rfl, rfl, hO⟩ := hrel
    by_cases hlt : k < T
    · have hM := fun m : Later W2 => HM.out k m.w (hr.later m) hlt hk1
      have hl7 : (ints l).length ≤ 1048576 := by rw [ints_len]; omega
      have Hhall := Lib.hid hall
      clear hall
      have HhO := Lib.hid hO
      clear hO
      go_wp2_with fail
      refine (hG m.w (hr.later m)).mono ?_
      rintro e w5 ⟨rfl, hB5⟩
      have HO5 := Lib.hid (HhO.out.below hB5)
      obtain ⟨m, rfl⟩ : ∃ m2 : Later W2, m2.w = w5 := ⟨m.on hB5, rfl⟩
      clear hB5 HhO hG
      go_wp2_with fail
      refine (hM m).mono ?_
      rintro e w6 ⟨b, rfl, hB6⟩
      have HO6 := Lib.hid (HO5.out.below hB6)
      obtain ⟨m, rfl⟩ : ∃ m2 : Later W2, m2.w = w6 := ⟨m.on hB6, rfl⟩
      clear hB6 HO5 hM
      have hms := m.size
      cases b
      · go_wp2_with fail
        go_roundw
        case rel => exact ⟨m, rfl, k + 1, l, ao, cap, by omega, by omega, by omega, Hhall.out, by go_num, rfl, HO6.out⟩
        case measure => simp [intOf]; omega
      · go_wp2_with (at_builtin; go_must (refine wpList_append_e rfl _ _ rfl W2.heap.size cap ao (ints l) (k : Int) rfl HO6.out rfl (by omega) (by omega) ?_); intro ao' cap' w1 hown1 hB1)
        rw [← ints_snoc] at hown1
        have hm9 := m.below.trans hB1
        have Hhown1 := Lib.hid hown1
        clear hown1
        have Hhm9 := Lib.hid hm9
        clear hm9
        go_roundw
        case rel => exact ⟨⟨w1, Hhm9.out⟩, rfl, k + 1, l ++ [k], ao', cap', by omega, by omega, by simp; omega, fun S h => by
          rcases List.mem_append.1 h with h | h
          · exact Hhall.out S h
          · simp at h; subst h; exact ⟨hk1, hlt⟩, by go_num, by simp [ints_len], Hhown1.out⟩
        case measure => simp [intOf]; omega
    · have HX := Lib.hid (OwnE.mono' hO HhB.out.size)
      have HA := Lib.hid (show ∀ S ∈ l, 1 ≤ S ∧ S < 2 ^ rs.length from fun S h => by rw [HhT.out]; exact hall S h)
      clear hall hO
      go_wp2_with fail
      refine (hG m.w (hr.later m)).mono ?_
      rintro e w5 ⟨rfl, hB5⟩
      have HX5 := Lib.hid (HX.out.below hB5)
      obtain ⟨m, rfl⟩ : ∃ m2 : Later W2, m2.w = w5 := ⟨m.on hB5, rfl⟩
      clear hB5 hG
      go_wp2_with fail
      go_ret
      exact ⟨ao, cap, l, rfl, by omega, HA.out, below_later HhB.out m, HX5.out⟩

set_option maxRecDepth 100000 in
set_option maxHeartbeats 2000000 in
theorem specStrongM_any (rs : List Int) (ro : Option Addr) (rc : Nat) (w : World) (hr : IntsAt w ro rs) (hv : isGraphB rs.length rs = true) :
    Calls Tryz.prog 90 #[.agg #[.int .i64 rs.length, .slice ro rs.length rc]] w (RetSs rs.length w) := by
  have g := (VG.of hv).2
  have hp1 := g.pow.1
  have hM := fun (w' : World) (h : IntsAt w' ro rs) => specMods_any rs ro rc w' h hv
  go_enter Tryz.func90, Tryz.ntmps90
  go_wp2_with fail
  generalize hW : w.alloc _ = W1
  obtain ⟨hB, -, k0⟩ := alloc1 hW
  replace hr := hr.below hB
  have hb0 := k0.lt
  have hc0 := k0.cell 0
  have hc1 := k0.cell 1
  simp at hc0 hc1
  clear hW k0
  have HhB := Lib.hid hB
  clear hB
  generalize hW2 : W1.alloc _ = W2
  obtain ⟨hB2, -, -⟩ := alloc1 hW2
  replace hr := hr.below hB2
  replace hc0 := (hB2.cell (p := ⟨w.heap.size, 0, none⟩) hb0).trans hc0
  replace hc1 := (hB2.cell (p := ⟨w.heap.size, 1, none⟩) hb0).trans hc1
  replace hb0 := Nat.lt_of_lt_of_le hb0 hB2.size
  replace HhB := Lib.hid (below_more' HhB.out hB2)
  clear hB2 hW2
  generalize (⟨w.heap.size + 1, 0, none⟩ : Addr) = na at *
  go_wp2_with fail
  refine (hM W2 hr).mono ?_
  rintro e w3 ⟨lo, lc, L, rfl, hL128, hLall, hB3, hL⟩
  replace hL := hL.ints
  have h3s := hB3.size
  obtain ⟨m3, rfl⟩ : ∃ m2 : Later W2, m2.w = w3 := ⟨⟨w3, hB3⟩, rfl⟩
  have HB3 := Lib.hid (below_later HhB.out m3)
  clear hB3 hM
  have hLn := ints_len L
  have hLat : ∀ j, j < L.length → gi (ints L) j = (eln L j : Int) := fun j hj => gi_map _ _ hj
  have hLb : ∀ j, j < L.length → eln L j < 128 := fun j hj => by have := hLall _ (eln_mem hj); omega
  have HLM := Lib.hid (fun j (hj : j < L.length) => hLall _ (eln_mem hj))
  generalize m3.w = W3 at *
  have HO3 := Lib.hid (OwnE.empty W3 W3.heap.size na)
  clear m3 hr hc0 hc1 hb0 hLall HhB
  go_wp2_with fail
  go_loopw [3, 5] (fun o i wr => ∃ m : Later W3, wr = m.w ∧ ∃ (k : Nat) (l : List Nat) (ao : Option Addr) (cap : Nat), k ≤ L.length ∧ l.length ≤ k ∧ (∀ S ∈ l, 1 ≤ S ∧ S < 2 ^ rs.length) ∧ i = .int .i64 k ∧ o = .slice ao (ints l).length cap ∧ OwnE m.w W3.heap.size ao cap (ints l)) (fun _ i _ => L.length - (intOf i).toNat)
  case atStart => exact ⟨Later.refl _, rfl, 0, [], _, _, by omega, Nat.le_refl _, by simp, rfl, rfl, HO3.out⟩
  case round =>
    obtain ⟨m, rfl, k, l, ao, cap, hk, hll, hall, rfl, rfl, hO⟩ := hrel
    have hms := m.size
    by_cases hlt : k < L.length
    · obtain ⟨b, off, rfl, hb, hcL⟩ := hL (by omega)
      have xk := hcL k (by omega)
      rw [hLat k hlt] at xk
      have hkb := hLb k hlt
      have HLk := Lib.hid (HLM.out k hlt)
      generalize eln L k = A at *
      have HW : ∀ m2 : Later m.w, ∃ m' : Later W3, m'.w = m2.w := fun m2 => ⟨m.on m2.below, rfl⟩
      have hbm : b < m.w.heap.size := Nat.lt_of_lt_of_le hb hms
      have hcm : ∀ j, j < L.length → m.w.cell? ⟨b, off + j, none⟩ = some (.int .i64 (eln L j)) := fun j hj => by rw [(m.cell b _ hb)]; rw [← hLat j hj]; exact hcL j (by omega)
      have xkm := (m.cell b _ hb).trans xk
      have Hhall := Lib.hid hall
      clear hall
      have HhO := Lib.hid hO
      clear hO
      have HHW := Lib.hid HW
      clear HW
      clear hcL xk
      generalize m.w = W4 at *
      clear m
      obtain ⟨m, hm0⟩ : ∃ m : Later W4, m.w = W4 := ⟨Later.refl _, rfl⟩
      refine (fun h => hm0 ▸ h) ?_
      clear hm0
      go_wp2_with fail
      go_loopw [6, 7] (fun s i wr => (∃ m : Later W4, wr = m.w) ∧ ∃ (j : Nat) (t : Bool), j ≤ L.length ∧ i = .int .i64 j ∧ s = .bool t) (fun _ i _ => L.length - (intOf i).toNat)
      case atStart => exact ⟨⟨m, rfl⟩, 0, true, by omega, rfl, rfl⟩
      case round =>
        obtain ⟨⟨m, rfl⟩, j, t, hj, rfl, rfl⟩ := hrel
        by_cases hjt : j < L.length
        · have xj := hcm j hjt
          have hjb := hLb j hjt
          clear hcm
          generalize eln L j = B at *
          have q1 : bits .and .i64 (A : Int) (B : Int) = ((A &&& B : Nat) : Int) := bits_and_nat _ _ (by omega) (by omega)
          generalize A &&& B = X at *
          have hjl : j < (ints L).length := by omega
          have hkl : k < (ints L).length := by omega
          cases t
          · go_wp2_with fail
            refine wp_region_later m rfl (by kernel_rfl) (by kernel_rfl) ?_
            repeat (go_big_quiet_step (fail))
            refine wpQuiet_nil ?_
            rintro _ ⟨m, rfl⟩
            go_wp2_with fail
            go_roundw
            case rel => exact ⟨⟨m, rfl⟩, j + 1, false, by omega, by go_num, rfl⟩
            case measure => simp [intOf]; omega
          · cases hx0 : ((X : Int) == 0)
            · cases hxa : ((X : Int) == (A : Int))
              · cases hxb : ((X : Int) == (B : Int))
                · go_wp2_with fail
                  refine wp_region_later m rfl (by kernel_rfl) (by kernel_rfl) ?_
                  repeat (go_big_quiet_step (fail))
                  refine wpQuiet_nil ?_
                  rintro _ ⟨m, rfl⟩
                  go_wp2_with fail
                  go_roundw
                  case rel => exact ⟨⟨m, rfl⟩, j + 1, false, by omega, by go_num, rfl⟩
                  case measure => simp [intOf]; omega
                · go_wp2_with fail
                  refine wp_region_later m rfl (by kernel_rfl) (by kernel_rfl) ?_
                  repeat (go_big_quiet_step (fail))
                  refine wpQuiet_nil ?_
                  rintro _ ⟨m, rfl⟩
                  go_wp2_with fail
                  go_roundw
                  case rel => exact ⟨⟨m, rfl⟩, j + 1, true, by omega, by go_num, rfl⟩
                  case measure => simp [intOf]; omega
              · go_wp2_with fail
                refine wp_region_later m rfl (by kernel_rfl) (by kernel_rfl) ?_
                repeat (go_big_quiet_step (fail))
                refine wpQuiet_nil ?_
                rintro _ ⟨m, rfl⟩
                go_wp2_with fail
                go_roundw
                case rel => exact ⟨⟨m, rfl⟩, j + 1, true, by omega, by go_num, rfl⟩
                case measure => simp [intOf]; omega
            · go_wp2_with fail
              refine wp_region_later m rfl (by kernel_rfl) (by kernel_rfl) ?_
              repeat (go_big_quiet_step (fail))
              refine wpQuiet_nil ?_
              rintro _ ⟨m, rfl⟩
              go_wp2_with fail
              go_roundw
              case rel => exact ⟨⟨m, rfl⟩, j + 1, true, by omega, by go_num, rfl⟩
              case measure => simp [intOf]; omega
        · clear hcm
          have hkl : k < (ints L).length := by omega
          have hl7 : (ints l).length ≤ 1048576 := by rw [ints_len]; omega
          have xk2 := (m.cell b _ hbm).trans xkm
          have HOm := Lib.hid (HhO.out.later m)
          have hms4 := m.size
          cases t
          · go_wp2_with fail
            go_roundw
            case rel =>
              obtain ⟨m', e⟩ := HHW.out m
              exact ⟨m', e.symm, k + 1, l, ao, cap, by omega, by omega, Hhall.out, by go_num, rfl, by rw [e]; exact HOm.out⟩
            case measure => simp [intOf]; omega
          · go_wp2_with (at_builtin; go_must (refine wpList_append_e rfl _ _ rfl W3.heap.size cap ao (ints l) (A : Int) rfl HOm.out rfl (by omega) (by omega) ?_); intro ao' cap' w1 hown1 hB1)
            rw [← ints_snoc] at hown1
            have hm9 : Below W3.heap.size W3 w1 := by
              obtain ⟨m', e⟩ := HHW.out m
              exact m'.below.trans (by rw [e]; exact hB1)
            have Hhown1 := Lib.hid hown1
            clear hown1
            have Hhm9 := Lib.hid hm9
            clear hm9
            go_roundw
            case rel => exact ⟨⟨w1, Hhm9.out⟩, rfl, k + 1, l ++ [A], ao', cap', by omega, by simp; omega, fun S h => by
              rcases List.mem_append.1 h with h | h
              · exact Hhall.out S h
              · simp at h; subst h; exact HLk.out, by go_num, by simp [ints_len], Hhown1.out⟩
            case measure => simp [intOf]; omega
    · have HX := Lib.hid (OwnE.mono' hO HB3.out.size)
      have HA := Lib.hid hall
      clear hall hO
      go_wp2_with fail
      go_ret
      exact ⟨ao, cap, l, rfl, by omega, HA.out, HB3.out.trans (m.below.mono HB3.out.size), HX.out⟩

/-- Some kind, and not prime. -/
def RetKi (w : World) (e : Ending) (w' : World) : Prop := ∃ k : Int, e = .returned (.int .i64 k) ∧ (-1 ≤ k ∧ k ≤ 2) ∧ Below w.heap.size w w'

set_option maxRecDepth 100000 in
set_option maxHeartbeats 2000000 in
theorem specKind_any (rs : List Int) (S : Nat) (ro : Option Addr) (rc : Nat) (w : World) (hr : IntsAt w ro rs) (hv : isGraphB rs.length rs = true) (hp : noP4 rs) (hS : S < 2 ^ rs.length) (h1 : 1 ≤ S) :
    Calls Tryz.prog 91 #[.agg #[.int .i64 rs.length, .slice ro rs.length rc], .int .i64 S] w (RetKi w) := by
  have g := (VG.of hv).2
  have h7 : S < 128 := by have := g.pow.1; omega
  have gc := (VG.of (compl_graph g)).2
  have hM := fun (w' : World) (h : IntsAt w' ro rs) => specIsMod_any rs S ro rc w' h hv hS h1
  have hco := fun (w' : World) (h : IntsAt w' ro rs) => specCompl_any rs ro rc w' h hv
  have hC := fun w' : World => specCount_any S h7 w'
  have hP := fun (w' : World) (h : IntsAt w' ro rs) => specParts_any rs S ro rc w' h hv hS
  have hPC := fun (ho : Option Addr) (hc : Nat) (w' : World) (h : IntsAt w' ho (compl rs)) => specParts_any (compl rs) S ho hc w' h gc.graph (by rw [compl_len]; exact hS)
  rw [compl_len] at hPC
  have hcl := cnt_le S
  have hc1' : 1 ≤ cnt S := by have := cnt_zero h7 (show S ≠ 0 by omega); omega
  have hl1 := (parts_pts g hS)
  have hl2 := (parts_pts gc (S := S) (by rw [compl_len]; exact hS))
  have HOR : Hid (cnt S ≠ 1 → ¬1 < (partsOf rs S).length → 1 < (partsOf (compl rs) S).length) := Lib.hid fun h2 h3 => by
    have k1 := cog_parts (Co.compl g) hp hS (by omega)
    rcases k1 with k1 | k1
    · have := hl1.two h7 k1 hc1'
      omega
    · have := hl2.two h7 k1 hc1'
      omega
  have hn1 := ints_len (partsOf rs S)
  have hn2 := ints_len (partsOf (compl rs) S)
  rw [← hn1, ← hn2] at HOR
  clear hl1 hl2 hn1 hn2 hp
  generalize ints (partsOf rs S) = L1 at *
  generalize ints (partsOf (compl rs) S) = L2 at *
  go_enter Tryz.func91, Tryz.ntmps91
  go_wp2_with fail
  generalize hW : w.alloc _ = W1
  obtain ⟨hB, -, k0⟩ := alloc1 hW
  replace hr := hr.below hB
  have hb0 := k0.lt
  have hc0 := k0.cell 0
  have hc1 := k0.cell 1
  simp at hc0 hc1
  clear hW k0
  have HhB := Lib.hid hB
  clear hB
  obtain ⟨m, hm0⟩ : ∃ m : Later W1, m.w = W1 := ⟨Later.refl _, rfl⟩
  refine (fun h => hm0 ▸ h) ?_
  clear hm0
  go_wp2_with fail
  refine (hM m.w (hr.later m)).mono ?_
  rintro e w2 ⟨b, rfl, hB2⟩
  obtain ⟨m, rfl⟩ : ∃ m2 : Later W1, m2.w = w2 := ⟨m.on hB2, rfl⟩
  clear hB2 hM
  cases b
  · go_wp2_with fail
    go_ret
    exact ⟨-1, rfl, by omega, below_later HhB.out m⟩
  · go_wp2_with fail
    refine (hco m.w (hr.later m)).mono ?_
    rintro e w3 ⟨ho, hc, rfl, hB3, hO⟩
    have hBm := below_more m.below hB3
    clear hco hB3
    go_upto_region 4 with fail
    generalize hW4 : World.alloc _ _ = W4
    obtain ⟨hB4, -, k4⟩ := alloc1 hW4
    have hBm4 := below_more hBm hB4
    have x0 := k4.cell 0
    have x1 := k4.cell 1
    have xl := k4.lt
    simp at x0 x1
    replace hr := hr.below hBm4
    replace hO := hO.below hB4
    have y0 := (hBm4.cell (p := ⟨w.heap.size, 0, none⟩) hb0).trans hc0
    have y1 := (hBm4.cell (p := ⟨w.heap.size, 1, none⟩) hb0).trans hc1
    have yl := Nat.lt_of_lt_of_le hb0 hBm4.size
    have HB4 := Lib.hid (HhB.out.trans (hBm4.mono HhB.out.size))
    generalize w3.heap.size = b3 at *
    clear hW4 hB4 k4 hBm hBm4 hc0 hc1 hb0 HhB m
    obtain ⟨m, hm0⟩ : ∃ m : Later W4, m.w = W4 := ⟨Later.refl _, rfl⟩
    refine (fun h => hm0 ▸ h) ?_
    clear hm0
    cases hone : ((cnt S : Int) == 1)
    · have hne : cnt S ≠ 1 := by rw [beq_eq_false_iff_ne] at hone; omega
      go_wp2_with fail
      refine (hC m.w).mono ?_
      rintro e w5 ⟨rfl, hB5⟩
      obtain ⟨m, rfl⟩ : ∃ m2 : Later W4, m2.w = w5 := ⟨m.on hB5, rfl⟩
      clear hB5 hC
      go_wp2_with fail
      refine (hP m.w (hr.later m)).mono ?_
      rintro e w5 ⟨lo, lc, rfl, hB5, -⟩
      obtain ⟨m, rfl⟩ : ∃ m2 : Later W4, m2.w = w5 := ⟨m.on hB5, rfl⟩
      clear hB5 hP
      by_cases hp1 : 1 < L1.length
      · have d1 : decide (1 < (L1.length : Int)) = true := decide_eq_true (by omega)
        go_wp2_with fail
        go_ret
        exact ⟨1, rfl, by omega, below_later HB4.out m⟩
      · have d1 : decide (1 < (L1.length : Int)) = false := decide_eq_false (by omega)
        have hp2 := HOR.out hne hp1
        have d2 : decide (1 < (L2.length : Int)) = true := decide_eq_true (by omega)
        clear hp1 hp2
        go_wp2_with fail
        refine (hPC ho hc m.w (hO.later m)).mono ?_
        rintro e w5 ⟨lo2, lc2, rfl, hB5, -⟩
        obtain ⟨m, rfl⟩ : ∃ m2 : Later W4, m2.w = w5 := ⟨m.on hB5, rfl⟩
        clear hB5 hPC
        go_wp2_with fail
        go_ret
        exact ⟨2, rfl, by omega, below_later HB4.out m⟩
    · go_wp2_with fail
      refine (hC m.w).mono ?_
      rintro e w5 ⟨rfl, hB5⟩
      obtain ⟨m, rfl⟩ : ∃ m2 : Later W4, m2.w = w5 := ⟨m.on hB5, rfl⟩
      clear hB5 hC
      go_wp2_with fail
      go_ret
      exact ⟨0, rfl, by omega, below_later HB4.out m⟩

end Go.Proofs.YtjikmjhpmkakoaaGreatDoor

namespace Go.Proofs.YtjikmjhpmkakoaaGreatDoor
open Go.Shelf Go.RowKit
end Go.Proofs.YtjikmjhpmkakoaaGreatDoor

namespace Go.Proofs.YtjikmjhpmkakoaaGreatDoor
open Go.RowKit

theorem gi_get {l : List Int} {j : Nat} (h : j < l.length) : gi l j = l[j] := by simp [gi, h]
theorem gi_mem {l : List Int} {x : Int} : x ∈ l ↔ ∃ j, j < l.length ∧ gi l j = x := by
  rw [List.mem_iff_getElem]
  exact ⟨fun ⟨j, h, e⟩ => ⟨j, h, by rw [gi_get h, e]⟩, fun ⟨j, h, e⟩ => ⟨j, h, by rw [← gi_get h, e]⟩⟩
end Go.Proofs.YtjikmjhpmkakoaaGreatDoor
