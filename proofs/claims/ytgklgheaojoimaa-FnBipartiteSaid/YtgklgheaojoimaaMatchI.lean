/-
  IsMatching on both sides. For at most 2^20 rows and lists.
-/
import Derived.Test.YtgklgheaojoimaaPk44
namespace Go.Proofs.Ytgklgheaojoimaa
open Go.RowKit

theorem two_row {l : List Int} (h : l.length = 2) {w : World} {ro : Option Addr} (hi : IntsAt w ro l) : ∃ b off, ro = some ⟨b, off, none⟩ ∧ b < w.heap.size ∧ w.cell? ⟨b, off, none⟩ = some (.int .i64 (gi l 0)) ∧ w.cell? ⟨b, off + 1, none⟩ = some (.int .i64 (gi l 1)) := by
  obtain ⟨b, off, h1, h2, h3⟩ := hi (by omega)
  exact ⟨b, off, h1, h2, h3 0 (by omega), h3 1 (by omega)⟩
theorem mOk_len {n : Int} {rs : List Int} {ls : List (List Int)} {k : Nat} (h : ¬(rowL ls k).length = 2) : mOk n rs ls k = false := by unfold mOk; rw [decide_eq_false h]; rfl
theorem mOk_edge {n : Int} {rs : List Int} {ls : List (List Int)} {k : Nat} (h : edgB n rs (gi (rowL ls k) 0) (gi (rowL ls k) 1) = false) : mOk n rs ls k = false := by unfold mOk; rw [h]; simp
theorem mOk_used {n : Int} {rs : List Int} {ls : List (List Int)} {k : Nat} {b1 b2 : Bool} (h2 : (rowL ls k).length = 2) (he : edgB n rs (gi (rowL ls k) 0) (gi (rowL ls k) 1) = true) (h3 : (mUsed ls k).testBit (gi (rowL ls k) 0).toNat = b1) (h4 : (mUsed ls k).testBit (gi (rowL ls k) 1).toNat = b2) : mOk n rs ls k = (!b1 && !b2) := by
  unfold mOk; rw [decide_eq_true h2, he, h3, h4]; rfl

set_option maxRecDepth 100000 in
set_option maxHeartbeats 4000000 in
theorem specIsMatch_any (n : Int) (rs : List Int) (ls : List (List Int)) (ro lo : Option Addr) (rc lc : Nat) (w : World) (hr : IntsAt w ro rs) (hrl : rs.length ≤ 1048576) (hl : RowsAt w lo ls) (hll : ls.length ≤ 1048576) :
    Calls Try.prog 28 #[.agg #[.int .i64 n, .slice ro rs.length rc], .slice lo ls.length lc] w fun e w' => e = .returned (.bool (matchB n rs ls)) ∧ Below w.heap.size w w' := by
  go_enter Try.func28, Try.ntmps28
  go_wp2_with fail
  generalize hW : w.alloc _ = W1
  obtain ⟨hB, -, k0⟩ := alloc1 hW
  replace hr := hr.below hB
  replace hl := hl.below hB
  have hb0 := k0.lt
  have hc0 := k0.cell 0
  have hc1 := k0.cell 1
  simp at hc0 hc1
  clear hW k0
  have HhB := Lib.hid hB
  clear hB
  go_loopw [5, 6] (fun u i wr => (∃ m : Later W1, wr = m.w) ∧ ∃ k : Nat, k ≤ ls.length ∧ i = .int .i64 k ∧ u = .int .i64 (mUsed ls k) ∧ ∀ j, j < k → mOk n rs ls j = true) (fun _ i _ => ls.length - (intOf i).toNat)
  case atStart => exact ⟨⟨Later.refl _, rfl⟩, 0, by omega, rfl, rfl, fun j h => by omega⟩
  case round =>
    obtain ⟨⟨m, rfl⟩, k, hk, rfl, rfl, hP⟩ := hrel
    by_cases hlt : k < ls.length
    · obtain ⟨b, off, rfl, hb, hc⟩ := hl (by omega)
      obtain ⟨r1, c1, e1, i1⟩ := hc k hlt
      have hU := mUsed_lt k hP
      have HN : Hid (mUsed ls (k + 1) = mUsed ls k ||| 2 ^ (gi (rowL ls k) 0).toNat ||| 2 ^ (gi (rowL ls k) 1).toNat) := rfl
      have HB := Lib.hid (fun h => matchB_bad (n := n) (rs := rs) hlt h)
      have H1 := Lib.hid (fun h => mOk_len (n := n) (rs := rs) (ls := ls) (k := k) h)
      have H2 := Lib.hid (fun h => mOk_edge (n := n) (rs := rs) (ls := ls) (k := k) h)
      have H3 := Lib.hid (fun b1 b2 h1 h2 h3 h4 => mOk_used (n := n) (rs := rs) (ls := ls) (k := k) (b1 := b1) (b2 := b2) h1 h2 h3 h4)
      clear hc
      have HhP := Lib.hid hP
      clear hP
      have Hhl := Lib.hid hl
      clear hl
      generalize hQ : mUsed ls (k + 1) = U' at *
      have HhQ := Lib.hid hQ
      clear hQ
      generalize mUsed ls k = U at *
      generalize rowL ls k = l at *
      by_cases h2 : l.length = 2
      · obtain ⟨b2, off2, rfl, hb2, x0, x1⟩ := two_row h2 i1
        have d2 : ((l.length : Int) != 2) = false := by rw [h2]; rfl
        have hE := fun m : Later W1 => specHasEdge_any n rs (gi l 0) (gi l 1) ro rc m.w (hr.later m) hrl
        have hn0 : (0 : Int) < l.length := by omega
        have hn1 : (1 : Int) < l.length := by omega
        have Hh2 := Lib.hid h2
        clear h2 i1
        cases he : edgB n rs (gi l 0) (gi l 1)
        · rw [he] at hE
          go_wp2_with fail
          refine wp_region_later m rfl (by kernel_rfl) (by kernel_rfl) ?_
          repeat (go_big_quiet_step ((first | (go_at_call 100; exact Calls.later _ (hE _)))))
          refine wpQuiet_nil ?_
          rintro _ ⟨m, rfl⟩
          go_wp2_with fail
          go_ret
          exact ⟨retB (by rw [HB.out (H2.out he)]), below_later HhB.out m⟩
        · rw [he] at hE
          obtain ⟨rfl, g, a, c, ha, hcc, ha2, hc2, -⟩ := edgB_true he
          have hg2 := g.le
          have h3 := fun b1 b2 => H3.out b1 b2 Hh2.out he
          rw [ha, hcc] at h3
          have HN2 := HN.out
          rw [ha, hcc, Int.toNat_natCast, Int.toNat_natCast] at HN2
          simp only [Int.toNat_natCast] at h3
          rw [ha] at x0
          rw [hcc] at x1
          rw [ha, hcc] at hE
          have q1 := hasN_nat U a
          have q2 := hasN_nat U c
          have Hh3 := Lib.hid h3
          clear h3
          have HHN2 := Lib.hid HN2
          clear HN2
          clear HN H1 H2 H3 ha hcc he
          have p1 : pwN a = ((2 ^ a : Nat) : Int) := pwN_small a (by omega)
          have p2 : pwN c = ((2 ^ c : Nat) : Int) := pwN_small c (by omega)
          have t1 : 2 ^ a < 128 := Nat.pow_lt_pow_right (a := 2) (n := 7) (by decide) (by omega)
          have t2 : 2 ^ c < 128 := Nat.pow_lt_pow_right (a := 2) (n := 7) (by decide) (by omega)
          have u1 : bits .or .i64 (U : Int) ((2 ^ a : Nat) : Int) = ((U ||| 2 ^ a : Nat) : Int) := bits_or_nat _ _ (by omega) (by omega)
          have t3 : U ||| 2 ^ a < 128 := Nat.or_lt_two_pow (n := 7) hU t1
          have u2 : bits .or .i64 ((U ||| 2 ^ a : Nat) : Int) ((2 ^ c : Nat) : Int) = ((U ||| 2 ^ a ||| 2 ^ c : Nat) : Int) := bits_or_nat _ _ (by omega) (by omega)
          generalize U ||| 2 ^ a ||| 2 ^ c = U2 at *
          generalize U ||| 2 ^ a = U1 at *
          generalize 2 ^ a = Ta at *
          generalize 2 ^ c = Tc at *
          cases hu1 : U.testBit a
          · rw [hu1] at q1
            cases hu2 : U.testBit c
            · rw [hu2] at q2
              go_wp2_with fail
              refine wp_region_later m rfl (by kernel_rfl) (by kernel_rfl) ?_
              repeat (go_big_quiet_step ((first | (go_at_call 100; exact Calls.later _ (hE _)))))
              refine wpQuiet_nil ?_
              rintro _ ⟨m, rfl⟩
              go_wp2_with fail
              refine wp_region_later m rfl (by kernel_rfl) (by kernel_rfl) ?_
              repeat (go_big_quiet_step (fail))
              refine wpQuiet_nil ?_
              rintro _ ⟨m, rfl⟩
              go_wp2_with fail
              go_roundw
              case rel => exact ⟨⟨m, rfl⟩, k + 1, by omega, by go_num, by rw [HhQ.out, HHN2.out], all_succ HhP.out (Hh3.out _ _ hu1 hu2)⟩
              case measure => simp [intOf]; omega
            · rw [hu2] at q2
              go_wp2_with fail
              refine wp_region_later m rfl (by kernel_rfl) (by kernel_rfl) ?_
              repeat (go_big_quiet_step ((first | (go_at_call 100; exact Calls.later _ (hE _)))))
              refine wpQuiet_nil ?_
              rintro _ ⟨m, rfl⟩
              go_wp2_with fail
              go_ret
              exact ⟨retB (by rw [HB.out (Hh3.out _ _ hu1 hu2)]), below_later HhB.out m⟩
          · rw [hu1] at q1
            go_wp2_with fail
            refine wp_region_later m rfl (by kernel_rfl) (by kernel_rfl) ?_
            repeat (go_big_quiet_step ((first | (go_at_call 100; exact Calls.later _ (hE _)))))
            refine wpQuiet_nil ?_
            rintro _ ⟨m, rfl⟩
            go_wp2_with fail
            go_ret
            exact ⟨retB (by rw [HB.out (Hh3.out _ _ hu1 rfl)]), below_later HhB.out m⟩
      · have d2 : ((l.length : Int) != 2) = true := by simp; omega
        go_wp2_with fail
        refine wp_region_later m rfl (by kernel_rfl) (by kernel_rfl) ?_
        repeat (go_big_quiet_step (fail))
        refine wpQuiet_nil ?_
        rintro _ ⟨m, rfl⟩
        go_wp2_with fail
        go_ret
        exact ⟨retB (by rw [HB.out (H1.out h2)]), below_later HhB.out m⟩
    · have HE := Lib.hid (matchB_end (n := n) (rs := rs) (ls := ls) fun j hj => hP j (by omega))
      clear hP
      generalize mUsed ls k = U at *
      have hG := fun m : Later W1 => specIsGraph_any n rs ro rc m.w (hr.later m) hrl
      generalize isGraphB n rs = gB at *
      go_wp2_with fail
      refine (Calls.later m (hG m)).mono ?_
      rintro e w' ⟨rfl, m, rfl⟩
      go_wp2_with fail
      go_ret
      exact ⟨retB (by rw [HE.out]), below_later HhB.out m⟩

set_option maxRecDepth 100000 in
set_option maxHeartbeats 4000000 in
theorem implIsMatch_any (n : Int) (rs : List Int) (ls : List (List Int)) (ro lo : Option Addr) (rc lc : Nat) (w : World) (hr : IntsAt w ro rs) (hrl : rs.length ≤ 1048576) (hl : RowsAt w lo ls) (hll : ls.length ≤ 1048576) :
    Calls Try.prog 21 #[.agg #[.int .i64 n, .slice ro rs.length rc], .slice lo ls.length lc] w fun e w' => e = .returned (.bool (matchB n rs ls)) ∧ Below w.heap.size w w' := by
  go_enter Try.func21, Try.ntmps21
  go_wp2_with fail
  generalize hW : w.alloc _ = W1
  obtain ⟨hB, -, k0⟩ := alloc1 hW
  replace hr := hr.below hB
  replace hl := hl.below hB
  have hb0 := k0.lt
  have hc0 := k0.cell 0
  have hc1 := k0.cell 1
  simp at hc0 hc1
  clear hW k0
  have HhB := Lib.hid hB
  clear hB
  go_wp2_with fail
  go_loopw [5, 10] (fun u i wr => (∃ m : Later W1, wr = m.w) ∧ ∃ k : Nat, k ≤ ls.length ∧ i = .int .i64 k ∧ u = .int .i64 (mUsed ls k) ∧ ∀ j, j < k → mOk n rs ls j = true) (fun _ i _ => ls.length - (intOf i).toNat)
  case atStart => exact ⟨⟨Later.refl _, rfl⟩, 0, by omega, rfl, rfl, fun j h => by omega⟩
  case round =>
    obtain ⟨⟨m, rfl⟩, k, hk, rfl, rfl, hP⟩ := hrel
    by_cases hlt : k < ls.length
    · obtain ⟨b, off, rfl, hb, hc⟩ := hl (by omega)
      obtain ⟨r1, c1, e1, i1⟩ := hc k hlt
      have hU := mUsed_lt k hP
      have HN : Hid (mUsed ls (k + 1) = mUsed ls k ||| 2 ^ (gi (rowL ls k) 0).toNat ||| 2 ^ (gi (rowL ls k) 1).toNat) := rfl
      have HB := Lib.hid (fun h => matchB_bad (n := n) (rs := rs) hlt h)
      have H1 := Lib.hid (fun h => mOk_len (n := n) (rs := rs) (ls := ls) (k := k) h)
      have H2 := Lib.hid (fun h => mOk_edge (n := n) (rs := rs) (ls := ls) (k := k) h)
      have H3 := Lib.hid (fun b1 b2 h1 h2 h3 h4 => mOk_used (n := n) (rs := rs) (ls := ls) (k := k) (b1 := b1) (b2 := b2) h1 h2 h3 h4)
      clear hc
      have HhP := Lib.hid hP
      clear hP
      have Hhl := Lib.hid hl
      clear hl
      generalize hQ : mUsed ls (k + 1) = U' at *
      have HhQ := Lib.hid hQ
      clear hQ
      generalize mUsed ls k = U at *
      generalize rowL ls k = l at *
      by_cases h2 : l.length = 2
      · obtain ⟨b2, off2, rfl, hb2, x0, x1⟩ := two_row h2 i1
        have d2 : ((l.length : Int) != 2) = false := by rw [h2]; rfl
        have hE := fun m : Later W1 => implHasEdge_any n rs (gi l 0) (gi l 1) ro rc m.w (hr.later m) hrl
        have hn0 : (0 : Int) < l.length := by omega
        have hn1 : (1 : Int) < l.length := by omega
        have Hh2 := Lib.hid h2
        clear h2 i1
        cases he : edgB n rs (gi l 0) (gi l 1)
        · rw [he] at hE
          go_wp2_with fail
          refine wp_region_later m rfl (by kernel_rfl) (by kernel_rfl) ?_
          repeat (go_big_quiet_step ((first | (go_at_call 92; exact Calls.later _ (hE _)))))
          refine wpQuiet_nil ?_
          rintro _ ⟨m, rfl⟩
          go_wp2_with fail
          go_ret
          exact ⟨retB (by rw [HB.out (H2.out he)]), below_later HhB.out m⟩
        · rw [he] at hE
          obtain ⟨rfl, g, a, c, ha, hcc, ha2, hc2, -⟩ := edgB_true he
          have hg2 := g.le
          have h3 := fun b1 b2 => H3.out b1 b2 Hh2.out he
          rw [ha, hcc] at h3
          have HN2 := HN.out
          rw [ha, hcc, Int.toNat_natCast, Int.toNat_natCast, Nat.or_assoc] at HN2
          simp only [Int.toNat_natCast] at h3
          rw [ha] at x0
          rw [hcc] at x1
          rw [ha, hcc] at hE
          have q1 := fun w => has_any (U : Int) (a : Int) (by omega) (by omega) w
          have q2 := fun w => has_any (U : Int) (c : Int) (by omega) (by omega) w
          simp only [Int.toNat_natCast, hasN_nat] at q1 q2
          have Hh3 := Lib.hid h3
          clear h3
          have HHN2 := Lib.hid HN2
          clear HN2
          clear HN H1 H2 H3 ha hcc he
          have p1 : pwN a = ((2 ^ a : Nat) : Int) := pwN_small a (by omega)
          have p2 : pwN c = ((2 ^ c : Nat) : Int) := pwN_small c (by omega)
          have t1 : 2 ^ a < 128 := Nat.pow_lt_pow_right (a := 2) (n := 7) (by decide) (by omega)
          have t2 : 2 ^ c < 128 := Nat.pow_lt_pow_right (a := 2) (n := 7) (by decide) (by omega)
          have u1 : bits .or .i64 ((2 ^ a : Nat) : Int) ((2 ^ c : Nat) : Int) = ((2 ^ a ||| 2 ^ c : Nat) : Int) := bits_or_nat _ _ (by omega) (by omega)
          have t3 : 2 ^ a ||| 2 ^ c < 128 := Nat.or_lt_two_pow (n := 7) t1 t2
          have u2 : bits .or .i64 (U : Int) ((2 ^ a ||| 2 ^ c : Nat) : Int) = ((U ||| (2 ^ a ||| 2 ^ c) : Nat) : Int) := bits_or_nat _ _ (by omega) (by omega)
          generalize U ||| (2 ^ a ||| 2 ^ c) = U2 at *
          generalize 2 ^ a ||| 2 ^ c = U1 at *
          generalize 2 ^ a = Ta at *
          generalize 2 ^ c = Tc at *
          cases hu1 : U.testBit a
          · rw [hu1] at q1
            cases hu2 : U.testBit c
            · rw [hu2] at q2
              go_wp2_with fail
              refine wp_region_later m rfl (by kernel_rfl) (by kernel_rfl) ?_
              repeat (go_big_quiet_step ((first | (go_at_call 92; exact Calls.later _ (hE _)) | (with_reducible exact Calls.later_same _ (q1 _)) | (with_reducible exact Calls.later_same _ (q2 _)))))
              refine wpQuiet_nil ?_
              rintro _ ⟨m, rfl⟩
              go_wp2_with fail
              refine wp_region_later m rfl (by kernel_rfl) (by kernel_rfl) ?_
              repeat (go_big_quiet_step (fail))
              refine wpQuiet_nil ?_
              rintro _ ⟨m, rfl⟩
              go_wp2_with fail
              go_roundw
              case rel => exact ⟨⟨m, rfl⟩, k + 1, by omega, by go_num, by rw [HhQ.out, HHN2.out], all_succ HhP.out (Hh3.out _ _ hu1 hu2)⟩
              case measure => simp [intOf]; omega
            · rw [hu2] at q2
              go_wp2_with fail
              refine wp_region_later m rfl (by kernel_rfl) (by kernel_rfl) ?_
              repeat (go_big_quiet_step ((first | (go_at_call 92; exact Calls.later _ (hE _)) | (with_reducible exact Calls.later_same _ (q1 _)) | (with_reducible exact Calls.later_same _ (q2 _)))))
              refine wpQuiet_nil ?_
              rintro _ ⟨m, rfl⟩
              go_wp2_with fail
              go_ret
              exact ⟨retB (by rw [HB.out (Hh3.out _ _ hu1 hu2)]), below_later HhB.out m⟩
          · rw [hu1] at q1
            go_wp2_with fail
            refine wp_region_later m rfl (by kernel_rfl) (by kernel_rfl) ?_
            repeat (go_big_quiet_step ((first | (go_at_call 92; exact Calls.later _ (hE _)) | (with_reducible exact Calls.later_same _ (q1 _)) | (with_reducible exact Calls.later_same _ (q2 _)))))
            refine wpQuiet_nil ?_
            rintro _ ⟨m, rfl⟩
            go_wp2_with fail
            go_ret
            exact ⟨retB (by rw [HB.out (Hh3.out _ _ hu1 rfl)]), below_later HhB.out m⟩
      · have d2 : ((l.length : Int) != 2) = true := by simp; omega
        go_wp2_with fail
        refine wp_region_later m rfl (by kernel_rfl) (by kernel_rfl) ?_
        repeat (go_big_quiet_step (fail))
        refine wpQuiet_nil ?_
        rintro _ ⟨m, rfl⟩
        go_wp2_with fail
        go_ret
        exact ⟨retB (by rw [HB.out (H1.out h2)]), below_later HhB.out m⟩
    · have HE := Lib.hid (matchB_end (n := n) (rs := rs) (ls := ls) fun j hj => hP j (by omega))
      clear hP
      generalize mUsed ls k = U at *
      have hG := fun m : Later W1 => implIsGraph_any n rs ro rc m.w (hr.later m) hrl
      generalize isGraphB n rs = gB at *
      go_wp2_with fail
      refine (Calls.later m (hG m)).mono ?_
      rintro e w' ⟨rfl, m, rfl⟩
      go_wp2_with fail
      go_ret
      exact ⟨retB (by rw [HE.out]), below_later HhB.out m⟩

end Go.Proofs.Ytgklgheaojoimaa
