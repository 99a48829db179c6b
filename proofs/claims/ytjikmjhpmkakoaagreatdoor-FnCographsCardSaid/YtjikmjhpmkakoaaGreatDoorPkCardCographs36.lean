/-
  ModuleTreeOf of the reference, as far as FnCographs asks: no kind is prime. For graphs without a path of four vertices.
-/
import Derived.Test.YtjikmjhpmkakoaaGreatDoorPkCardCographs35
import Derived.Test.YtjikmjhpmkakoaaGreatDoorPkCardCographs13
import Derived.Test.YtjikmjhpmkakoaaGreatDoorPkCardCographs10
namespace Go.Proofs.YtjikmjhpmkakoaaGreatDoor
open Go.RowKit

/-- The blocks of two lists differ. -/
def SepB (v v' : Value) : Prop := ∀ k, v.ownBlock = some k → v'.ownBlock = some k → False
theorem SepB.symm {v v' : Value} (h : SepB v v') : SepB v' v := fun k h1 h2 => h k h2 h1
/-- What an append to one list leaves of another. -/
theorem keep_other {w w' : World} {base g n cap : Nat} {v v2 : Value} {R : List Int} (h2 : OwnL w base v2 R) (hs : SepB v v2) (hg : w.grownBy w' v.ownBlock) (hgg : v.ownBlock = some g ∨ g = w.heap.size) : OwnL w' base v2 R ∧ SepB (.slice (some ⟨g, 0, none⟩) n cap) v2 := by
  refine ⟨h2.kept hg ?_, fun k h3 h4 => ?_⟩
  · cases e : v2.ownBlock with
    | none => exact .inl rfl
    | some k => exact .inr fun e2 => hs k e2.symm e
  · have h3 : some g = some k := h3
    obtain rfl := Option.some.inj h3
    rcases hgg with h5 | h5
    · exact hs _ h5 h4
    · have := (h2.lt h4).2; omega
/-- Three lists of the call's own, each in blocks of its own. -/
structure ThreeL (w : World) (base : Nat) (v1 v2 v3 : Value) (A B C : List Int) : Prop where
  o1 : OwnL w base v1 A
  o2 : OwnL w base v2 B
  o3 : OwnL w base v3 C
  s12 : SepB v1 v2
  s13 : SepB v1 v3
  s23 : SepB v2 v3
theorem SepB.none (v : Value) : SepB (.slice none 0 0) v := fun k h => by cases h
theorem ThreeL.nil (w : World) (base : Nat) : ThreeL w base (.slice none 0 0) (.slice none 0 0) (.slice none 0 0) [] [] [] := ⟨OwnL.nil _ _, OwnL.nil _ _, OwnL.nil _ _, SepB.none _, SepB.none _, SepB.none _⟩
theorem ThreeL.below {w w' : World} {base : Nat} {v1 v2 v3 : Value} {A B C : List Int} (h : ThreeL w base v1 v2 v3 A B C) (hb : Below w.heap.size w w') : ThreeL w' base v1 v2 v3 A B C := ⟨h.o1.below hb, h.o2.below hb, h.o3.below hb, h.s12, h.s13, h.s23⟩
theorem ThreeL.store {w : World} {base : Nat} {v1 v2 v3 : Value} {A B C : List Int} (h : ThreeL w base v1 v2 v3 A B C) {a : Addr} (ha : a.block < base) (u : Value) : ThreeL (w.setCell a u) base v1 v2 v3 A B C := by
  have hg : w.grownBy (w.setCell a u) (some a.block) := ⟨rfl, rfl, rfl, by simp [World.setCell], fun k _ hk => Below.heap_setCell _ _ _ _ (fun e => hk (by rw [e]))⟩
  have key : ∀ v xs, OwnL w base v xs → OwnL (w.setCell a u) base v xs := fun v xs ho => by
    refine ho.kept hg ?_
    cases hv : v.ownBlock with
    | none => exact .inl rfl
    | some k => exact .inr fun e => by have := (ho.lt hv).1; simp only [Option.some.injEq] at e; omega
  exact ⟨key _ _ h.o1, key _ _ h.o2, key _ _ h.o3, h.s12, h.s13, h.s23⟩
theorem ThreeL.put1 {w w' : World} {base g n cap : Nat} {v1 v2 v3 : Value} {A B C A' : List Int} (h : ThreeL w base v1 v2 v3 A B C) (ho : OwnL w' base (.slice (some ⟨g, 0, none⟩) n cap) A') (hg : w.grownBy w' v1.ownBlock) (hgg : v1.ownBlock = some g ∨ g = w.heap.size) : ThreeL w' base (.slice (some ⟨g, 0, none⟩) n cap) v2 v3 A' B C := by
  obtain ⟨a1, a2⟩ := keep_other (n := n) (cap := cap) h.o2 h.s12 hg hgg
  obtain ⟨b1, b2⟩ := keep_other (n := n) (cap := cap) h.o3 h.s13 hg hgg
  exact ⟨ho, a1, b1, a2, b2, h.s23⟩
theorem ThreeL.put2 {w w' : World} {base g n cap : Nat} {v1 v2 v3 : Value} {A B C B' : List Int} (h : ThreeL w base v1 v2 v3 A B C) (ho : OwnL w' base (.slice (some ⟨g, 0, none⟩) n cap) B') (hg : w.grownBy w' v2.ownBlock) (hgg : v2.ownBlock = some g ∨ g = w.heap.size) : ThreeL w' base v1 (.slice (some ⟨g, 0, none⟩) n cap) v3 A B' C := by
  obtain ⟨a1, a2⟩ := keep_other (n := n) (cap := cap) h.o1 h.s12.symm hg hgg
  obtain ⟨b1, b2⟩ := keep_other (n := n) (cap := cap) h.o3 h.s23 hg hgg
  exact ⟨a1, ho, b1, a2.symm, h.s13, b2⟩
theorem ThreeL.put3 {w w' : World} {base g n cap : Nat} {v1 v2 v3 : Value} {A B C C' : List Int} (h : ThreeL w base v1 v2 v3 A B C) (ho : OwnL w' base (.slice (some ⟨g, 0, none⟩) n cap) C') (hg : w.grownBy w' v3.ownBlock) (hgg : v3.ownBlock = some g ∨ g = w.heap.size) : ThreeL w' base v1 v2 (.slice (some ⟨g, 0, none⟩) n cap) A B C' := by
  obtain ⟨a1, a2⟩ := keep_other (n := n) (cap := cap) h.o1 h.s13.symm hg hgg
  obtain ⟨b1, b2⟩ := keep_other (n := n) (cap := cap) h.o2 h.s23.symm hg hgg
  exact ⟨a1, b1, ho, h.s12, a2.symm, b2.symm⟩
theorem step_append_L {ops : Array Oper} {o : Oper} {a : Act} {K : Act → World → Prop} {Q : Exit → Act → World → Prop} {E : Prop} {w : World} (hgd : o.guard = none) (s x : Operand)
    (ho : o.op = .call { callee := .builtin .append, args := #[s, x], argTypes := #[24, 24] })
    (base : Nat) (v : Value) (xs : List Int) (y : Int) (B : Nat) (hs : a.eval s = v) (hown : OwnL w base v xs) (hx : a.eval x = .slice (some ⟨B, 0, none⟩) 1 1)
    (hc : w.cell? ⟨B, 0, none⟩ = some (.int .i64 y)) (hbase : base ≤ w.heap.size) (hlen : xs.length ≤ 1048576)
    (n : Nat) (hn : xs.length = n) (h : ∀ g cap w', OwnL w' base (.slice (some ⟨g, 0, none⟩) (n + 1) cap) (xs ++ [y]) → w.grownBy w' v.ownBlock → (v.ownBlock = some g ∨ g = w.heap.size) → K (a.put o.dst (.slice (some ⟨g, 0, none⟩) (n + 1) cap)) w') :
    if Region.wanted o (yielded ops a.tmps) = true then Oper.wp Tryz.prog o a w K Q else E := by
  rw [if_pos (by simp [Region.wanted, hgd])]
  exact wp_append_L s x ho base v xs y B hs hown hx hc hbase hlen n hn h
theorem wpList_append_L {ops : Array Oper} {rest : List Oper} {o : Oper} {a : Act} {Q : Exit → Act → World → Prop} {w : World} (hgd : o.guard = none) (s x : Operand)
    (ho : o.op = .call { callee := .builtin .append, args := #[s, x], argTypes := #[24, 24] })
    (base : Nat) (v : Value) (xs : List Int) (y : Int) (hs : a.eval s = v) (hown : OwnL (w.alloc (.cells #[.int .i64 y] 3)) base v xs) (hx : a.eval x = .slice (some ⟨w.heap.size, 0, none⟩) 1 1) (hbase : base ≤ w.heap.size) (hlen : xs.length ≤ 1048576) (n : Nat) (hn : xs.length = n)
    (h : ∀ g cap w', OwnL w' base (.slice (some ⟨g, 0, none⟩) (n + 1) cap) (xs ++ [y]) → (w.alloc (.cells #[.int .i64 y] 3)).grownBy w' v.ownBlock → (v.ownBlock = some g ∨ g = (w.alloc (.cells #[.int .i64 y] 3)).heap.size) → wpList Tryz.prog ops Q rest (a.put o.dst (.slice (some ⟨g, 0, none⟩) (n + 1) cap)) w') : wpList Tryz.prog ops Q (o :: rest) a (w.alloc (.cells #[.int .i64 y] 3)) :=
  wpList_plain hgd fun _ hK => wp_append_L s x ho base v xs y w.heap.size hs hown hx (cell_new rfl) (by simp; omega) hlen n hn fun g cap w' h1 h2 h3 => hK _ _ (h g cap w' h1 h2 h3)

/-- A tree of modules without a prime one. -/
def RetMt (w : World) (e : Ending) (w' : World) : Prop :=
  ∃ (ao co : Option Addr) (n1 c1 n3 c3 : Nat) (bo : Option Addr) (kc : Nat) (B : List Int), e = .returned (.tuple #[.agg #[.slice ao n1 c1, .slice bo B.length kc, .slice co n3 c3], .bool true]) ∧ Below w.heap.size w w' ∧ IntsAt w' bo B ∧ B.length ≤ 1048576 ∧ ∀ k ∈ B, -1 ≤ k ∧ k ≤ 2

set_option maxRecDepth 100000 in
set_option maxHeartbeats 4000000 in
theorem specModTree_any (rs : List Int) (ro : Option Addr) (rc : Nat) (w : World) (hr : IntsAt w ro rs) (hv : isGraphB rs.length rs = true) (hp : noP4 rs) :
    Calls Tryz.prog 32 #[.agg #[.int .i64 rs.length, .slice ro rs.length rc]] w (RetMt w) := by
  have g := (VG.of hv).2
  have hg1 := g.pos
  have hg2 := g.le
  have hp1 := g.pow.1
  have hG := fun (w' : World) (h : IntsAt w' ro rs) => specIsGraph_any rs.length rs ro rc w' h (by omega)
  rw [hv] at hG
  have hSM := fun (w' : World) (h : IntsAt w' ro rs) => specStrongM_any rs ro rc w' h hv
  have HK := Lib.hid (fun (S : Nat) (w' : World) (h : IntsAt w' ro rs) (h1 : S < 2 ^ rs.length) (h2 : 1 ≤ S) => specKind_any rs S ro rc w' h hv hp h1 h2)
  have Hr0 := Lib.hid hr
  go_enter Tryz.func32, Tryz.ntmps32
  go_wp2_with fail
  generalize hW : World.alloc _ _ = W1
  obtain ⟨hB, -, k0, k1, k2⟩ := alloc3 hW
  replace hr := hr.below hB
  have HhB := Lib.hid hB
  have hb0 := k0.lt
  have hc0 := k0.cell 0
  have hc1 := k0.cell 1
  have ht4 := k2.lt
  simp at hc0 hc1
  have hnb : ¬ (w.heap.size = w.heap.size + 1 + 1) := by omega
  have Hk1 := Lib.hid k1
  have Hk2 := Lib.hid k2
  clear hW hB k0 k1 k2
  generalize hgb : w.heap.size = gb at *
  generalize htb : gb + 1 + 1 = tb at *
  have hrb : gb + 1 < tb := by omega
  refine (hG W1 hr).mono ?_
  rintro e w2 ⟨rfl, hB2⟩
  obtain ⟨m, rfl⟩ : ∃ m2 : Later W1, m2.w = w2 := ⟨(Later.refl W1).on hB2, rfl⟩
  clear hB2 hG
  go_wp2_with fail
  refine (hSM m.w (hr.later m)).mono ?_
  rintro e w3 ⟨lo, lc, l, rfl, hl7, hlS, hB3, hLO⟩
  have hB4 := below_more m.below hB3
  have hm2 := m.size
  replace hr := hr.below hB4
  replace hc0 := (hB4.cell (p := ⟨gb, 0, none⟩) hb0).trans hc0
  replace hc1 := (hB4.cell (p := ⟨gb, 1, none⟩) hb0).trans hc1
  have hs3 := hB4.size
  have Hk1 := Lib.hid (Hk1.out.below hB4 Hk1.out.lt)
  have Hk2 := Lib.hid (Hk2.out.below hB4 Hk2.out.lt)
  have HB3 := Lib.hid (HhB.out.trans (hB4.mono (by have := HhB.out.size; omega)))
  have HLX := Lib.hid (hLO.intsX (X := fun b => b = tb) (fun b hb e => by have e2 : b = tb := e; omega))
  have HlS := Lib.hid hlS
  have hln : (ints l).length ≤ 128 := by rw [ints_len]; exact hl7
  have Hlen := Lib.hid (ints_len l)
  clear hlS hl7 hLO hB3 hB4 hSM hr
  generalize hQ : ints l = L at *
  have HLq := Lib.hid hQ
  clear hQ
  replace hb0 : gb < w3.heap.size := by omega
  have htl : tb < w3.heap.size := by omega
  clear hs3 ht4 hm2 m
  have Hr := Lib.hid (fun (m : LateX (fun b => b = tb) w3) => (Hr0.out.below (show Below w.heap.size w m.w by rw [hgb]; exact HB3.out.trans (m.only.below (B' := gb) (by omega) fun b hb h => by have h2 : b = tb := h; omega)) : IntsAt m.w ro rs))
  go_upto_region 6 with fail
  go_loopw [6] (fun i wr => ∃ m : LateX (fun b => b = tb) w3, wr = m.w ∧ ∃ (n : Nat) (A B C : List Int) (v1 v2 v3 : Value), n ≤ 7 ∧ i = .int .i64 n ∧ Blk m.w tb #[v1, v2, v3] 51 ∧ ThreeL m.w w3.heap.size v1 v2 v3 A B C ∧ (∀ x ∈ B, -1 ≤ x ∧ x ≤ 2) ∧ A.length + 128 * n ≤ 896 ∧ B.length + 128 * n ≤ 896 ∧ C.length + 128 * n ≤ 896) (fun i _ => (intOf i).toNat)
  case atStart => exact ⟨LateX.refl _ _, rfl, rs.length, [], [], [], _, _, _, hg2, rfl, Hk2.out, ThreeL.nil _ _, by simp, by simp; omega, by simp; omega, by simp; omega⟩
  case round =>
    obtain ⟨m, rfl, n, A, B, C, v1, v2, v3, hn7, rfl, hk, hT, hB, ha, hb, hc⟩ := hrel
    by_cases hn0 : 0 < n
    · have d0 : decide (0 < (n : Int)) = true := decide_eq_true (by omega)
      have Hhk := Lib.hid hk
      clear hk
      have HhT := Lib.hid hT
      clear hT
      have HhB := Lib.hid hB
      clear hB
      have Hha := Lib.hid ha
      clear ha
      have Hhb := Lib.hid hb
      clear hb
      have Hhc := Lib.hid hc
      clear hc
      go_upto_region 9 with fail
      have Hhn0 := Lib.hid hn0
      clear hn0
      go_loopw [7] (fun i wr => ∃ m : LateX (fun b => b = tb) w3, wr = m.w ∧ ∃ (j : Nat) (A B C : List Int) (v1 v2 v3 : Value), j ≤ L.length ∧ i = .int .i64 j ∧ Blk m.w tb #[v1, v2, v3] 51 ∧ ThreeL m.w w3.heap.size v1 v2 v3 A B C ∧ (∀ x ∈ B, -1 ≤ x ∧ x ≤ 2) ∧ A.length + 128 * n ≤ 896 + j ∧ B.length + 128 * n ≤ 896 + j ∧ C.length + 128 * n ≤ 896 + j) (fun i _ => L.length - (intOf i).toNat)
      case atStart => exact ⟨m, rfl, 0, A, B, C, _, _, _, by omega, rfl, Hhk.out, HhT.out, HhB.out, Hha.out, Hhb.out, Hhc.out⟩
      case round =>
        clear Hhk HhT HhB Hha Hhb Hhc m
        obtain ⟨m, rfl, j, A, B, C, v1, v2, v3, hj, rfl, hk, hT, hB, ha, hb, hc⟩ := hrel
        by_cases hlt : j < L.length
        · have d1 : decide ((j : Int) < (L.length : Int)) = true := decide_eq_true (by omega)
          obtain ⟨lb, lofs, hlo, hnX, hlbl, hlcell⟩ := HLX.out (by omega)
          subst hlo
          have hz := hlcell j hlt
          obtain ⟨S, hS1, hS2, hgS⟩ : ∃ S : Nat, 1 ≤ S ∧ S < 2 ^ rs.length ∧ gi L j = (S : Int) := by
            obtain ⟨S, h1, h2⟩ := List.mem_map.1 (show gi L j ∈ ints l by rw [HLq.out]; exact gi_mem.2 ⟨j, hlt, rfl⟩)
            have h3 := HlS.out S h1
            exact ⟨S, h3.1, h3.2, h2.symm⟩
          rw [hgS] at hz
          have hS7 : S < 128 := by omega
          have hC := fun w' : World => specCount_any S hS7 w'
          have hcl := cnt_le S
          have Hhk := Lib.hid hk
          clear hk
          have HhT := Lib.hid hT
          clear hT
          have HhB := Lib.hid hB
          clear hB
          have Hha := Lib.hid ha
          clear ha
          have Hhb := Lib.hid hb
          clear hb
          have Hhc := Lib.hid hc
          clear hc
          have HhgS := Lib.hid hgS
          clear hgS
          clear hlcell
          go_wp2_with fail
          refine (hC m.w).mono ?_
          rintro e w4 ⟨rfl, hB4⟩
          have hX4 := m.onB_only hB4
          have hk4 := Hhk.out.below hB4 Hhk.out.lt
          have hT4 := HhT.out.below hB4
          replace hz := (hX4.cell (p := ⟨lb, lofs + j, none⟩) hlbl hnX).trans hz
          have hg0 := (hX4.cell (p := ⟨gb, 0, none⟩) hb0 hnb).trans hc0
          have hg1 := (hX4.cell (p := ⟨gb, 1, none⟩) hb0 hnb).trans hc1
          have hgl := Nat.lt_of_lt_of_le hb0 hX4.size
          have hll := Nat.lt_of_lt_of_le hlbl hX4.size
          have x0 := hk4.cell 0
          have x1 := hk4.cell 1
          have x2 := hk4.cell 2
          have xl := hk4.lt
          simp at x0 x1 x2
          clear Hhk HhT hC hB4 m hcl
          have HhX4 := Lib.hid hX4
          clear hX4
          have Hhk4 := Lib.hid hk4
          clear hk4
          have HhT4 := Lib.hid hT4
          clear hT4
          cases hsz : ((cnt S : Int) == (n : Int))
          · go_wp2_with fail
            go_roundw
            case rel => exact ⟨⟨w4, HhX4.out⟩, rfl, j + 1, A, B, C, _, _, _, by omega, by go_num, Hhk4.out, HhT4.out, HhB.out, by have := Hha.out; omega, by have := Hhb.out; omega, by have := Hhc.out; omega⟩
            case measure => simp [intOf]; omega
          · have hT5 := HhT4.out
            obtain ⟨ao, ac, rfl⟩ := hT5.o1.form
            have hAI := hT5.o1.ints
            obtain ⟨bo, bc, rfl⟩ := hT5.o2.form
            obtain ⟨co, cc, rfl⟩ := hT5.o3.form
            have hal : A.length ≤ 1048576 := by have := Hha.out; omega
            have hbl : B.length ≤ 1048576 := by have := Hhb.out; omega
            have hcl : C.length ≤ 1048576 := by have := Hhc.out; omega
            clear hT5
            go_upto_region 14 with fail
            go_loopw [8, 9] (fun p i wr => (∃ m : Later w4, wr = m.w) ∧ ∃ (z : Int) (q : Nat), q ≤ A.length ∧ p = .int .i64 z ∧ i = .int .i64 q) (fun _ i _ => A.length - (intOf i).toNat)
            case atStart => exact ⟨⟨Later.refl _, rfl⟩, -1, 0, by omega, rfl, rfl⟩
            case round =>
              obtain ⟨⟨m, rfl⟩, z, q, hq, rfl, rfl⟩ := hrel
              by_cases hlq : q < A.length
              · have d2 : decide ((q : Int) < (A.length : Int)) = true := decide_eq_true (by omega)
                obtain ⟨ab, aofs, hao, habl, hacell⟩ := hAI (by omega)
                subst hao
                have hzq := hacell q hlq
                clear hacell
                go_upto_region 16 with fail
                refine wp_region_later m rfl (by kernel_rfl) (by kernel_rfl) ?_
                repeat (go_big_quiet_step (fail))
                refine wpQuiet_nil ?_
                rintro _ ⟨m, rfl⟩
                generalize bits .and .i64 (gi A q) (S : Int) = Z
                cases hzz : (Z == (S : Int))
                · go_wp2_with fail
                  go_roundw
                  case rel => exact ⟨⟨m, rfl⟩, z, q + 1, by omega, rfl, by go_num⟩
                  case measure => simp [intOf]; omega
                · go_wp2_with fail
                  go_roundw
                  case rel => exact ⟨⟨m, rfl⟩, q, q + 1, by omega, rfl, by go_num⟩
                  case measure => simp [intOf]; omega
              · have d2 : decide ((q : Int) < (A.length : Int)) = false := decide_eq_false (by omega)
                clear hAI
                have hX5 := HhX4.out.more m.below (HhX4.out.size)
                have hk5 := Hhk4.out.later m
                have hT5 := HhT4.out.below m.below
                replace hz := (m.below.cell (p := ⟨lb, lofs + j, none⟩) hll).trans hz
                replace hg0 := (m.below.cell (p := ⟨gb, 0, none⟩) hgl).trans hg0
                replace hg1 := (m.below.cell (p := ⟨gb, 1, none⟩) hgl).trans hg1
                replace x0 := (m.below.cell (p := ⟨tb, 0, none⟩) xl).trans x0
                replace x1 := (m.below.cell (p := ⟨tb, 1, none⟩) xl).trans x1
                replace x2 := (m.below.cell (p := ⟨tb, 2, none⟩) xl).trans x2
                replace hll := Nat.lt_of_lt_of_le hll m.below.size
                replace hgl := Nat.lt_of_lt_of_le hgl m.below.size
                replace xl := Nat.lt_of_lt_of_le xl m.below.size
                clear HhX4 Hhk4 HhT4
                have HhX5 := Lib.hid hX5
                clear hX5
                have Hhk5 := Lib.hid hk5
                clear hk5
                have HhT5 := Lib.hid hT5
                clear hT5
                generalize m.w = w5 at *
                clear m
                go_upto_region 18 with fail
                refine wp_region_B (fun w' => w'.cell? ⟨lb, lofs + j, none⟩ = some (.int .i64 S)) (fun w' => w'.cell? ⟨tb, 0, none⟩ = some (.slice ao A.length ac)) [9] (by kernel_rfl) (hz) (x0) (fun hM => ?_)
                refine wpAnyB_take (i := 0) (v := ?_) false rfl (by kernel_rfl) (by kernel_rfl) (by kernel_rfl) (by kernel_rfl) (by kernel_rfl) (fun _ _ _ h => h) (Or.inl ⟨by rfl, ?_⟩) hM (fun hM2 => ?_)
                rotate_left
                · (intro w hSw; replace hSw := hSw.1; (try dsimp only at hSw); go_simp; try with_reducible rfl)
                replace hM := hM2
                clear hM2
                try simp only [List.getElem_toArray, List.getElem_cons_zero, Act.put, List.setIfInBounds_toArray, List.set_cons_zero, List.set_cons_succ]
                refine wpAnyB_take (i := 1) (v := ?_) true rfl (by kernel_rfl) (by kernel_rfl) (by kernel_rfl) (by kernel_rfl) (by kernel_rfl) (fun _ _ _ h => h) (Or.inl ⟨by rfl, ?_⟩) hM (fun hM2 => ?_)
                rotate_left
                · (intro w hSw; have hSl := hSw.2 rfl; replace hSw := hSw.1; (try dsimp only at hSl); (try dsimp only at hSw); go_simp; try with_reducible rfl)
                replace hM := hM2
                clear hM2
                try simp only [List.getElem_toArray, List.getElem_cons_succ, List.getElem_cons_zero, Act.put, List.setIfInBounds_toArray, List.set_cons_zero, List.set_cons_succ]
                refine wpAnyB_take (i := 2) (v := ?_) false rfl (by kernel_rfl) (by kernel_rfl) (by kernel_rfl) (by kernel_rfl) (by kernel_rfl) (fun _ _ _ h => h) (Or.inl ⟨by rfl, ?_⟩) hM (fun hM2 => ?_)
                rotate_left
                · (intro w hSw; replace hSw := hSw.1; (try dsimp only at hSw); go_simp; try with_reducible rfl)
                replace hM := hM2
                clear hM2
                try simp only [List.getElem_toArray, List.getElem_cons_succ, List.getElem_cons_zero, Act.put, List.setIfInBounds_toArray, List.set_cons_zero, List.set_cons_succ]
                refine wpAnyB_take (i := 3) (v := ?_) false rfl (by kernel_rfl) (by kernel_rfl) (by kernel_rfl) (by kernel_rfl) (by kernel_rfl) (fun _ _ _ h => h) (Or.inl ⟨by rfl, ?_⟩) hM (fun hM2 => ?_)
                rotate_left
                · (intro w hSw; replace hSw := hSw.1; (try dsimp only at hSw); go_simp; try with_reducible rfl)
                replace hM := hM2
                clear hM2
                try simp only [List.getElem_toArray, List.getElem_cons_succ, List.getElem_cons_zero, Act.put, List.setIfInBounds_toArray, List.set_cons_zero, List.set_cons_succ]
                refine wpAnyB_take (i := 4) (v := ?_) false rfl (by kernel_rfl) (by kernel_rfl) (by kernel_rfl) (by kernel_rfl) (by kernel_rfl) (fun _ _ _ h => h) (Or.inl ⟨by rfl, ?_⟩) hM (fun hM2 => ?_)
                rotate_left
                · (intro w hSw; replace hSw := hSw.1; (try dsimp only at hSw); go_simp; try with_reducible rfl)
                replace hM := hM2
                clear hM2
                try simp only [List.getElem_toArray, List.getElem_cons_succ, List.getElem_cons_zero, Act.put, List.setIfInBounds_toArray, List.set_cons_zero, List.set_cons_succ]
                refine wpAnyB_take (i := 5) (v := ?_) false rfl (by kernel_rfl) (by kernel_rfl) (by kernel_rfl) (by kernel_rfl) (by kernel_rfl) (fun _ _ _ h => h) (Or.inl ⟨by rfl, ?_⟩) hM (fun hM2 => ?_)
                rotate_left
                · (intro w hSw; replace hSw := hSw.1; (try dsimp only at hSw); go_simp; try with_reducible rfl)
                replace hM := hM2
                clear hM2
                try simp only [List.getElem_toArray, List.getElem_cons_succ, List.getElem_cons_zero, Act.put, List.setIfInBounds_toArray, List.set_cons_zero, List.set_cons_succ]
                have hA5 := fun cs : Array Value => ((Below.refl w5.heap.size w5).drew.alloc (Nat.le_refl _) (.cells cs 3) : Below w5.heap.size w5 (w5.drew.alloc (.cells cs 3)))
                refine wpAnyB_one (i := 6) (by kernel_rfl) rfl (fun K hK => ?_)
                go_simp
                refine hK.out _ _ (meetB.both (((hA5 _).cell (p := ⟨lb, lofs + j, none⟩) hll).trans hz) (((hA5 _).cell (p := ⟨tb, 0, none⟩) xl).trans x0)) (fun hM2 => ?_)
                clear hK K
                replace hM := hM2
                clear hM2
                try simp only [List.getElem_toArray, List.getElem_cons_succ, List.getElem_cons_zero, Act.put, List.setIfInBounds_toArray, List.set_cons_zero, List.set_cons_succ]
                have hs5 := HhX5.out.size
                have hT6 := HhT5.out.below (hA5 #[.int .i64 (S : Int)])
                refine wpAnyB_one (i := 7) (by kernel_rfl) rfl (fun K hK => ?_)
                (refine step_append_L (by rfl) _ _ (by rfl) w3.heap.size _ A (S : Int) _ (by rfl) hT6.o1 (by rfl) (cell_new rfl) (by simp; omega) hal A.length rfl ?_; intro g4 c4 w6 hO6 hG6 hg6; have hB6 := (hA5 #[.int .i64 (S : Int)]).mono hs5 |>.trans (grown_below hT6.o1 hG6 (by simp; omega)))
                refine hK.out _ _ (meetB.both ((hB6.cell (p := ⟨lb, lofs + j, none⟩) hlbl).trans hz) ((hB6.cell (p := ⟨tb, 0, none⟩) htl).trans x0)) (fun hM2 => ?_)
                clear hK K
                replace hM := hM2
                clear hM2
                try simp only [List.getElem_toArray, List.getElem_cons_succ, List.getElem_cons_zero, Act.put, List.setIfInBounds_toArray, List.set_cons_zero, List.set_cons_succ]
                refine wpAnyB_take (i := 8) (v := ?_) false rfl (by kernel_rfl) (by kernel_rfl) (by kernel_rfl) (by kernel_rfl) (by kernel_rfl) (fun _ _ _ h => h) (Or.inl ⟨by rfl, ?_⟩) hM (fun hM2 => ?_)
                rotate_left
                · (intro w hSw; replace hSw := hSw.1; (try dsimp only at hSw); go_simp; try with_reducible rfl)
                replace hM := hM2
                clear hM2
                try simp only [List.getElem_toArray, List.getElem_cons_succ, List.getElem_cons_zero, Act.put, List.setIfInBounds_toArray, List.set_cons_zero, List.set_cons_succ]
                have hk6 := Hhk5.out.below hB6 htl
                have hT7 := (hT6.put1 hO6 hG6 hg6).store (a := ⟨tb, 0, none⟩) htl (.slice (some ⟨g4, 0, none⟩) (A.length + 1) c4)
                have hk7 : Blk (w6.setCell ⟨tb, 0, none⟩ (.slice (some ⟨g4, 0, none⟩) (A.length + 1) c4)) tb #[.slice (some ⟨g4, 0, none⟩) (A.length + 1) c4, .slice bo B.length bc, .slice co C.length cc] 51 := by simpa using hk6.store 0 (.slice (some ⟨g4, 0, none⟩) (A.length + 1) c4)
                have hX7 : Only (fun b => b = tb) w3.heap.size w3 (w6.setCell ⟨tb, 0, none⟩ (.slice (some ⟨g4, 0, none⟩) (A.length + 1) c4)) := (HhX5.out.more hB6 (Nat.le_refl _)).setCell (.inl rfl) _
                have q0 := hk6.cell 0
                have q2 := hk6.frozen 0
                have q4 := hk6.lt
                simp at q0
                have hz7 := ((hX7.cell (p := ⟨lb, lofs + j, none⟩) hlbl hnX).trans ((HhX5.out.cell (p := ⟨lb, lofs + j, none⟩) hlbl hnX).symm.trans hz))
                refine wpAnyB_one (i := 9) (by kernel_rfl) rfl (fun K hK => ?_)
                go_simp
                refine hK.out _ _ (meetB.late (by assumption) (by kernel_rfl)) (fun hM2 => ?_)
                clear hK K
                replace hM := hM2
                clear hM2
                try simp only [List.getElem_toArray, List.getElem_cons_succ, List.getElem_cons_zero, Act.put, List.setIfInBounds_toArray, List.set_cons_zero, List.set_cons_succ]
                refine wpAnyB_done (by kernel_rfl) ?_ _
                clear q0 q2 q4 hk6 hT6 hO6 hG6 hg6 hB6 hA5 hM
                clear hg0 hg1 x0 x1 x2 hz hll hgl xl hs5 hal hbl Hhk5 HhT5 HhX5
                generalize World.setCell _ _ _ = w7 at *
                have hz := hz7
                have hg0 := (hX7.cell (p := ⟨gb, 0, none⟩) hb0 hnb).trans hc0
                have hg1 := (hX7.cell (p := ⟨gb, 1, none⟩) hb0 hnb).trans hc1
                have hs7 := hX7.size
                have hgl := Nat.lt_of_lt_of_le hb0 hs7
                have hll := Nat.lt_of_lt_of_le hlbl hs7
                have x0 := hk7.cell 0
                have x1 := hk7.cell 1
                have x2 := hk7.cell 2
                have xl := hk7.lt
                simp at x0 x1 x2
                have hbl : B.length ≤ 1048576 := by have := Hhb.out; omega
                have hr7 : IntsAt w7.drew ro rs := (Hr.out ⟨w7, hX7⟩).below (Below.refl _ _).drew
                clear hz7
                have HhX7 := Lib.hid hX7
                clear hX7
                have Hhk7 := Lib.hid hk7
                clear hk7
                have HhT7 := Lib.hid hT7
                clear hT7
                go_upto_region 19 with fail
                refine wp_region_B (fun w' => (w'.cell? ⟨lb, lofs + j, none⟩ = some (.int .i64 S) ∧ w'.cell? ⟨gb, 0, none⟩ = some (.int .i64 rs.length) ∧ w'.cell? ⟨gb, 1, none⟩ = some (.slice ro rs.length rc))) (fun w' => w'.cell? ⟨tb, 1, none⟩ = some (.slice bo B.length bc)) [11] (by kernel_rfl) (⟨hz, hg0, hg1⟩) (x1) (fun hM => ?_)
                refine wpAnyB_take (i := 0) (v := ?_) false rfl (by kernel_rfl) (by kernel_rfl) (by kernel_rfl) (by kernel_rfl) (by kernel_rfl) (fun _ _ _ h => h) (Or.inl ⟨by rfl, ?_⟩) hM (fun hM2 => ?_)
                rotate_left
                · (intro w hSw; replace hSw := hSw.1; (try dsimp only at hSw); go_simp; try with_reducible rfl)
                replace hM := hM2
                clear hM2
                try simp only [List.getElem_toArray, List.getElem_cons_zero, Act.put, List.setIfInBounds_toArray, List.set_cons_zero, List.set_cons_succ]
                refine wpAnyB_take (i := 1) (v := ?_) true rfl (by kernel_rfl) (by kernel_rfl) (by kernel_rfl) (by kernel_rfl) (by kernel_rfl) (fun _ _ _ h => h) (Or.inl ⟨by rfl, ?_⟩) hM (fun hM2 => ?_)
                rotate_left
                · (intro w hSw; have hSl := hSw.2 rfl; replace hSw := hSw.1; (try dsimp only at hSl); (try dsimp only at hSw); go_simp; try with_reducible rfl)
                replace hM := hM2
                clear hM2
                try simp only [List.getElem_toArray, List.getElem_cons_succ, List.getElem_cons_zero, Act.put, List.setIfInBounds_toArray, List.set_cons_zero, List.set_cons_succ]
                refine wpAnyB_take (i := 2) (v := ?_) false rfl (by kernel_rfl) (by kernel_rfl) (by kernel_rfl) (by kernel_rfl) (by kernel_rfl) (fun _ _ _ h => h) (Or.inl ⟨by rfl, ?_⟩) hM (fun hM2 => ?_)
                rotate_left
                · (intro w hSw; replace hSw := hSw.1; (try dsimp only at hSw); go_simp; try with_reducible rfl)
                replace hM := hM2
                clear hM2
                try simp only [List.getElem_toArray, List.getElem_cons_succ, List.getElem_cons_zero, Act.put, List.setIfInBounds_toArray, List.set_cons_zero, List.set_cons_succ]
                refine wpAnyB_take (i := 3) (v := ?_) false rfl (by kernel_rfl) (by kernel_rfl) (by kernel_rfl) (by kernel_rfl) (by kernel_rfl) (fun _ _ _ h => h) (Or.inl ⟨by rfl, ?_⟩) hM (fun hM2 => ?_)
                rotate_left
                · (intro w hSw; replace hSw := hSw.1; (try dsimp only at hSw); go_simp; try with_reducible rfl)
                replace hM := hM2
                clear hM2
                try simp only [List.getElem_toArray, List.getElem_cons_succ, List.getElem_cons_zero, Act.put, List.setIfInBounds_toArray, List.set_cons_zero, List.set_cons_succ]
                refine wpAnyB_take (i := 4) (v := ?_) false rfl (by kernel_rfl) (by kernel_rfl) (by kernel_rfl) (by kernel_rfl) (by kernel_rfl) (fun _ _ _ h => h) (Or.inl ⟨by rfl, ?_⟩) hM (fun hM2 => ?_)
                rotate_left
                · (intro w hSw; replace hSw := hSw.1; (try dsimp only at hSw); go_simp; try with_reducible rfl)
                replace hM := hM2
                clear hM2
                try simp only [List.getElem_toArray, List.getElem_cons_succ, List.getElem_cons_zero, Act.put, List.setIfInBounds_toArray, List.set_cons_zero, List.set_cons_succ]
                refine wpAnyB_take (i := 5) (v := ?_) false rfl (by kernel_rfl) (by kernel_rfl) (by kernel_rfl) (by kernel_rfl) (by kernel_rfl) (fun _ _ _ h => h) (Or.inl ⟨by rfl, ?_⟩) hM (fun hM2 => ?_)
                rotate_left
                · (intro w hSw; replace hSw := hSw.1; (try dsimp only at hSw); go_simp; try with_reducible rfl)
                replace hM := hM2
                clear hM2
                try simp only [List.getElem_toArray, List.getElem_cons_succ, List.getElem_cons_zero, Act.put, List.setIfInBounds_toArray, List.set_cons_zero, List.set_cons_succ]
                refine wpAnyB_take (i := 6) (v := ?_) false rfl (by kernel_rfl) (by kernel_rfl) (by kernel_rfl) (by kernel_rfl) (by kernel_rfl) (fun _ _ _ h => h) (Or.inl ⟨by rfl, ?_⟩) hM (fun hM2 => ?_)
                rotate_left
                · (intro w hSw; replace hSw := hSw.1; (try dsimp only at hSw); go_simp; try with_reducible rfl)
                replace hM := hM2
                clear hM2
                try simp only [List.getElem_toArray, List.getElem_cons_succ, List.getElem_cons_zero, Act.put, List.setIfInBounds_toArray, List.set_cons_zero, List.set_cons_succ]
                refine wpAnyB_one (i := 7) (by kernel_rfl) rfl (fun K hK => ?_)
                (go_simp; go_at_call 91; refine (HK.out S _ hr7 hS2 hS1).mono ?_; rintro e w8 ⟨kk, rfl, hkk, hB8⟩; have hB8 : Below w7.heap.size w7 w8 := (Below.refl _ _).drew.trans hB8; dsimp only)
                refine hK.out _ _ (meetB.both ⟨(hB8.cell (p := ⟨lb, lofs + j, none⟩) hll).trans hz, (hB8.cell (p := ⟨gb, 0, none⟩) hgl).trans hg0, (hB8.cell (p := ⟨gb, 1, none⟩) hgl).trans hg1⟩ ((hB8.cell (p := ⟨tb, 1, none⟩) xl).trans x1)) (fun hM2 => ?_)
                clear hK K
                replace hM := hM2
                clear hM2
                try simp only [List.getElem_toArray, List.getElem_cons_succ, List.getElem_cons_zero, Act.put, List.setIfInBounds_toArray, List.set_cons_zero, List.set_cons_succ]
                have hX8 : Only (fun b => b = tb) w3.heap.size w3 w8 := HhX7.out.more hB8 hs7
                have hT8 := HhT7.out.below hB8
                have hk8 := Hhk7.out.below hB8 xl
                have hz8 := (hB8.cell (p := ⟨lb, lofs + j, none⟩) hll).trans hz
                have hg08 := (hB8.cell (p := ⟨gb, 0, none⟩) hgl).trans hg0
                have hg18 := (hB8.cell (p := ⟨gb, 1, none⟩) hgl).trans hg1
                have x18 := (hB8.cell (p := ⟨tb, 1, none⟩) xl).trans x1
                have hs8 : w3.heap.size ≤ w8.heap.size := hX8.size
                have hA8 := fun cs : Array Value => ((Below.refl w3.heap.size w8).alloc hs8 (.cells cs 3) : Below w3.heap.size w8 (w8.alloc (.cells cs 3)))
                refine wpAnyB_one (i := 8) (by kernel_rfl) rfl (fun K hK => ?_)
                go_simp
                refine hK.out _ _ (meetB.both ⟨((hA8 _).cell (p := ⟨lb, lofs + j, none⟩) hlbl).trans hz8, ((hA8 _).cell (p := ⟨gb, 0, none⟩) hb0).trans hg08, ((hA8 _).cell (p := ⟨gb, 1, none⟩) hb0).trans hg18⟩ (((hA8 _).cell (p := ⟨tb, 1, none⟩) htl).trans x18)) (fun hM2 => ?_)
                clear hK K
                replace hM := hM2
                clear hM2
                try simp only [List.getElem_toArray, List.getElem_cons_succ, List.getElem_cons_zero, Act.put, List.setIfInBounds_toArray, List.set_cons_zero, List.set_cons_succ]
                have hT9 := hT8.below ((Below.refl _ _).alloc (Nat.le_refl _) (.cells #[.int .i64 kk] 3))
                refine wpAnyB_one (i := 9) (by kernel_rfl) rfl (fun K hK => ?_)
                (refine step_append_L (by rfl) _ _ (by rfl) w3.heap.size _ B kk _ (by rfl) hT9.o2 (by rfl) (cell_new rfl) (by simp; omega) hbl B.length rfl ?_; intro g5 c5 w10 hO10 hG10 hg10; have hB10 := (hA8 #[.int .i64 kk]).trans (grown_below hT9.o2 hG10 (by simp; omega)))
                refine hK.out _ _ (meetB.both ⟨(hB10.cell (p := ⟨lb, lofs + j, none⟩) hlbl).trans hz8, (hB10.cell (p := ⟨gb, 0, none⟩) hb0).trans hg08, (hB10.cell (p := ⟨gb, 1, none⟩) hb0).trans hg18⟩ ((hB10.cell (p := ⟨tb, 1, none⟩) htl).trans x18)) (fun hM2 => ?_)
                clear hK K
                replace hM := hM2
                clear hM2
                try simp only [List.getElem_toArray, List.getElem_cons_succ, List.getElem_cons_zero, Act.put, List.setIfInBounds_toArray, List.set_cons_zero, List.set_cons_succ]
                refine wpAnyB_take (i := 10) (v := ?_) false rfl (by kernel_rfl) (by kernel_rfl) (by kernel_rfl) (by kernel_rfl) (by kernel_rfl) (fun _ _ _ h => h) (Or.inl ⟨by rfl, ?_⟩) hM (fun hM2 => ?_)
                rotate_left
                · (intro w hSw; replace hSw := hSw.1; (try dsimp only at hSw); go_simp; try with_reducible rfl)
                replace hM := hM2
                clear hM2
                try simp only [List.getElem_toArray, List.getElem_cons_succ, List.getElem_cons_zero, Act.put, List.setIfInBounds_toArray, List.set_cons_zero, List.set_cons_succ]
                have hk10 := hk8.below hB10 htl
                have hT11 := (hT9.put2 hO10 hG10 hg10).store (a := ⟨tb, 1, none⟩) htl (.slice (some ⟨g5, 0, none⟩) (B.length + 1) c5)
                have hk11 : Blk (w10.setCell ⟨tb, 1, none⟩ (.slice (some ⟨g5, 0, none⟩) (B.length + 1) c5)) tb #[.slice (some ⟨g4, 0, none⟩) (A.length + 1) c4, .slice (some ⟨g5, 0, none⟩) (B.length + 1) c5, .slice co C.length cc] 51 := by simpa using hk10.store 1 (.slice (some ⟨g5, 0, none⟩) (B.length + 1) c5)
                have hX11 : Only (fun b => b = tb) w3.heap.size w3 (w10.setCell ⟨tb, 1, none⟩ (.slice (some ⟨g5, 0, none⟩) (B.length + 1) c5)) := (hX8.more hB10 (Nat.le_refl _)).setCell (.inl rfl) _
                have q0 := hk10.cell 1
                have q2 := hk10.frozen 1
                have q4 := hk10.lt
                simp at q0
                have hz11 := ((hX11.cell (p := ⟨lb, lofs + j, none⟩) hlbl hnX).trans ((hX8.cell (p := ⟨lb, lofs + j, none⟩) hlbl hnX).symm.trans hz8))
                have hg011 := ((hX11.cell (p := ⟨gb, 0, none⟩) hb0 hnb).trans ((hX8.cell (p := ⟨gb, 0, none⟩) hb0 hnb).symm.trans hg08))
                have hg111 := ((hX11.cell (p := ⟨gb, 1, none⟩) hb0 hnb).trans ((hX8.cell (p := ⟨gb, 1, none⟩) hb0 hnb).symm.trans hg18))
                refine wpAnyB_one (i := 11) (by kernel_rfl) rfl (fun K hK => ?_)
                go_simp
                refine hK.out _ _ (meetB.late ⟨hz11, hg011, hg111⟩ (by kernel_rfl)) (fun hM2 => ?_)
                clear hK K
                replace hM := hM2
                clear hM2
                try simp only [List.getElem_toArray, List.getElem_cons_succ, List.getElem_cons_zero, Act.put, List.setIfInBounds_toArray, List.set_cons_zero, List.set_cons_succ]
                refine wpAnyB_done (by kernel_rfl) ?_ _
                clear q0 q2 q4 hk10 hT9 hO10 hG10 hg10 hB10 hA8 hM hX8 hT8 hk8 hz8 hg08 hg18 x18 hs8 hz11 hg011 hg111 hB8 hg0 hg1 x0 x1 x2 hz hll hgl xl hs7 hbl hr7 HhT7 Hhk7 HhX7
                generalize World.setCell _ _ _ = w11 at *
                have hs11 := hX11.size
                have x0 := hk11.cell 0
                have x1 := hk11.cell 1
                have x2 := hk11.cell 2
                have x3 := hk11.frozen 2
                have xl := hk11.lt
                simp at x0 x1 x2
                have hT12 := hT11.below ((Below.refl _ _).alloc (Nat.le_refl _) (.cells #[.int .i64 z] 3))
                have HhX11 := Lib.hid hX11
                clear hX11
                have Hhk11 := Lib.hid hk11
                clear hk11
                have HhT11 := Lib.hid hT11
                clear hT11
                go_wp2_with (at_builtin; go_must (refine wpList_append_L (by rfl) _ _ (by rfl) w3.heap.size (.slice co C.length cc) C z (by rfl) hT12.o3 (by rfl) (by omega) hcl C.length rfl ?_); intro g6 c6 w12 hO12 hG12 hg12; have hB12 := ((Below.refl w3.heap.size w11).alloc hs11 (.cells #[.int .i64 z] 3)).trans (grown_below hT12.o3 hG12 (by simp; omega)); have hk12 := Hhk11.out.below hB12 htl; have y2 := hk12.cell 2; have y3 := hk12.frozen 2; have yl := hk12.lt; simp at y2)
                have hT13 := (hT12.put3 hO12 hG12 hg12).store (a := ⟨tb, 2, none⟩) htl (.slice (some ⟨g6, 0, none⟩) (C.length + 1) c6)
                have hk13 : Blk (w12.setCell ⟨tb, 2, none⟩ (.slice (some ⟨g6, 0, none⟩) (C.length + 1) c6)) tb #[.slice (some ⟨g4, 0, none⟩) (A.length + 1) c4, .slice (some ⟨g5, 0, none⟩) (B.length + 1) c5, .slice (some ⟨g6, 0, none⟩) (C.length + 1) c6] 51 := by simpa using hk12.store 2 (.slice (some ⟨g6, 0, none⟩) (C.length + 1) c6)
                have hX13 : Only (fun b => b = tb) w3.heap.size w3 (w12.setCell ⟨tb, 2, none⟩ (.slice (some ⟨g6, 0, none⟩) (C.length + 1) c6)) := (HhX11.out.more hB12 (Nat.le_refl _)).setCell (.inl rfl) _
                go_roundw
                case rel => exact ⟨⟨_, hX13⟩, rfl, j + 1, A ++ [(S : Int)], B ++ [kk], C ++ [z], _, _, _, by omega, by go_num, hk13, hT13, fun x hx => by
                  rcases List.mem_append.1 hx with h | h
                  · exact HhB.out x h
                  · simp at h; omega, by have := Hha.out; simp; omega, by have := Hhb.out; simp; omega, by have := Hhc.out; simp; omega⟩
                case measure => simp [intOf]; omega
        · have d1 : decide ((j : Int) < (L.length : Int)) = false := decide_eq_false (by omega)
          have hn0 := Hhn0.out
          have hq : (n : Int) - 1 = ((n - 1 : Nat) : Int) := by omega
          have Hhk := Lib.hid hk
          clear hk
          have HhT := Lib.hid hT
          clear hT
          have HhB := Lib.hid hB
          clear hB
          have Hha := Lib.hid ha
          clear ha
          have Hhb := Lib.hid hb
          clear hb
          have Hhc := Lib.hid hc
          clear hc
          go_wp2_with fail
          go_roundw
          case rel => exact ⟨m, rfl, n - 1, A, B, C, _, _, _, by omega, by go_num, Hhk.out, HhT.out, HhB.out, by have := Hha.out; omega, by have := Hhb.out; omega, by have := Hhc.out; omega⟩
          case measure => simp [intOf]; omega
    · obtain rfl : n = 0 := by omega
      have d0 : decide (0 < ((0 : Nat) : Int)) = false := rfl
      have hX := m.only
      have hk1 := m.blk Hk1.out (by omega)
      have y0 := hk1.frozen 0
      have y1 := hk1.frozen 1
      have y2 := hk1.frozen 2
      have z0 := hk1.cell 0
      have z1 := hk1.cell 1
      have z2 := hk1.cell 2
      have yl := hk1.lt
      have x0 := hk.cell 0
      have x1 := hk.cell 1
      have x2 := hk.cell 2
      have xl := hk.lt
      simp at x0 x1 x2 z0 z1 z2
      obtain ⟨ao, ac, rfl⟩ := hT.o1.form
      obtain ⟨bo, bc, rfl⟩ := hT.o2.form
      obtain ⟨co, cc, rfl⟩ := hT.o3.form
      have hbI := hT.o2.ints
      have hbl : B.length ≤ 1048576 := by omega
      have hBm := HB3.out.trans (m.only.below (B' := gb) (by omega) fun b hb h => by have h2 : b = tb := h; omega)
      have hbo := hT.o2
      have hs4 := m.size
      have HhbI := Lib.hid hbI
      clear hbI
      have HhBm := Lib.hid hBm
      clear hBm
      have Hhbo := Lib.hid hbo
      clear hbo
      have HhB := Lib.hid hB
      clear hB
      generalize m.w = w4 at *
      clear hk hk1 m
      go_wp2_with fail
      refine bodyPost_ret (v := .tuple #[.agg #[.slice ao A.length ac, .slice bo B.length bc, .slice co C.length cc], .bool true]) (by simp [results, Tryz.results32, go_sem, z0, z1, z2, y0, y1, y2]) rfl ?_
      have e0 : gb + 1 < w3.heap.size := by omega
      have h1 := ownsRow_setCell_below (ownsRow_setCell_below (ownsRow_setCell_below Hhbo.out (a := ⟨gb + 1, 0, none⟩) e0 (.slice ao A.length ac)) (a := ⟨gb + 1, 1, none⟩) e0 (.slice bo B.length bc)) (a := ⟨gb + 1, 2, none⟩) e0 (.slice co C.length cc)
      refine ⟨ao, co, _, ac, _, cc, bo, bc, B, rfl, ?_, OwnL.ints h1, hbl, HhB.out⟩
      rw [hgb]
      exact (((HhBm.out.setCell (p := ⟨gb + 1, 0, none⟩) (by show gb ≤ gb + 1; omega) _).setCell (p := ⟨gb + 1, 1, none⟩) (by show gb ≤ gb + 1; omega) _).setCell (p := ⟨gb + 1, 2, none⟩) (by show gb ≤ gb + 1; omega) _)

end Go.Proofs.YtjikmjhpmkakoaaGreatDoor
