/-
  Orders by which vertices are taken away one by one: a simple order is an elimination, IsElimination of the program says so. For orders whose capacity is at least their length.
-/
import Derived.Test.YtgklgheaojoimaaPkLawStrong43
import Derived.Test.YtgklgheaojoimaaPkLawStrong44
import Derived.Test.YtgklgheaojoimaaPkLawStrong48
import Derived.Test.YtgklgheaojoimaaPkLawStrong27
namespace Go.Proofs.Ytgklgheaojoimaa
open Go.RowKit

/-- One vertex after the other that passes, until none is left. -/
def chainP (p : Nat → Nat → Bool) (N : Nat) : Nat → List Nat → Prop
  | S, [] => S = 0
  | S, v :: t => v < N ∧ p S v = true ∧ chainP p N (S - 2 ^ v) t
theorem takeF_chain {p : Nat → Nat → Bool} {N : Nat} (hp : ∀ S v, p S v = true → S.testBit v = true) : ∀ (f S : Nat) (out l : List Int), S ≤ f → takeF p N f S out = some l → ∃ t : List Nat, l = out ++ t.map Int.ofNat ∧ chainP p N S t := by
  intro f
  induction f with
  | zero =>
    intro S out l hS h
    obtain rfl : S = 0 := by omega
    rw [takeF_zero] at h
    exact ⟨[], by simpa using (Option.some.inj h).symm, rfl⟩
  | succ f ih =>
    intro S out l hS h
    by_cases h0 : S = 0
    · subst h0
      rw [takeF_zero] at h
      exact ⟨[], by simpa using (Option.some.inj h).symm, rfl⟩
    · cases hl : leastP p N S with
      | none => rw [takeF_none hS (by omega) hl] at h; cases h
      | some v =>
        rw [takeF_some hS (by omega) hl] at h
        have h1 := hl
        unfold leastP firstB at h1
        have h2 := List.find?_some h1
        have h3 := List.mem_range.1 (List.mem_of_find?_eq_some h1)
        have h4 := Nat.ge_two_pow_of_testBit (hp _ _ h2)
        have h5 := Nat.two_pow_pos v
        obtain ⟨t, e, ht⟩ := ih (S - 2 ^ v) _ _ (by omega) h
        exact ⟨v :: t, by rw [e]; simp, h3, h2, ht⟩
theorem chain_facts {p : Nat → Nat → Bool} {N : Nat} (hp : ∀ S v, p S v = true → S.testBit v = true) : ∀ (t : List Nat) (S : Nat), S < 128 → chainP p N S t →
    (∀ x, x ∈ t ↔ S.testBit x = true) ∧ t.Nodup ∧ (∀ x ∈ t, x < N) ∧ ∀ i, i < t.length → ∃ Si, Si < 128 ∧ p Si (eln t i) = true ∧ ∀ x, Si.testBit x = true ↔ S.testBit x = true ∧ x ∉ t.take i
  | [], S, _, h => by
    have h : S = 0 := h
    subst h
    exact ⟨fun x => by simp, List.nodup_nil, fun x hx => by simp at hx, fun i hi => by simp at hi⟩
  | v :: t, S, hS, ⟨h1, h2, h3⟩ => by
    have hb := hp _ _ h2
    have hbit := sub_bit hS hb
    obtain ⟨a1, a2, a3, a4⟩ := chain_facts hp t (S - 2 ^ v) (Nat.lt_of_le_of_lt (Nat.sub_le _ _) hS) h3
    have hbit2 : ∀ x, (S - 2 ^ v).testBit x = true ↔ S.testBit x = true ∧ x ≠ v := fun x => by rw [hbit, Bool.and_eq_true, decide_eq_true_eq]
    refine ⟨fun x => ?_, List.nodup_cons.2 ⟨fun h => ((hbit2 v).1 ((a1 v).1 h)).2 rfl, a2⟩, fun x hx => ?_, fun i hi => ?_⟩
    · rw [List.mem_cons, a1, hbit2]
      constructor
      · rintro (rfl | h)
        · exact hb
        · exact h.1
      · intro h
        by_cases e : x = v
        · exact .inl e
        · exact .inr ⟨h, e⟩
    · rcases List.mem_cons.1 hx with rfl | hx
      · exact h1
      · exact a3 x hx
    · cases i with
      | zero => exact ⟨S, hS, h2, fun x => by simp⟩
      | succ i =>
        obtain ⟨Si, b1, b2, b3⟩ := a4 i (by simpa using hi)
        refine ⟨Si, b1, b2, fun x => ?_⟩
        rw [b3, hbit2, List.take_succ_cons, List.mem_cons]
        constructor
        · rintro ⟨⟨c1, c2⟩, c3⟩
          exact ⟨c1, fun h => h.elim c2 c3⟩
        · rintro ⟨c1, c2⟩
          exact ⟨⟨c1, fun h => c2 (.inl h)⟩, fun h => c2 (.inr h)⟩
theorem nodup_sub_len : ∀ (d l : List Nat), d.Nodup → (∀ x ∈ d, x ∈ l) → d.length ≤ l.length
  | [], _, _, _ => Nat.zero_le _
  | a :: d, l, hd, hs => by
    obtain ⟨h1, h2⟩ := List.nodup_cons.1 hd
    have hal := hs a (by simp)
    have := nodup_sub_len d (l.erase a) h2 fun y hy => (List.mem_erase_of_ne fun e => h1 (by rw [← e]; exact hy)).2 (hs y (List.mem_cons_of_mem _ hy))
    rw [List.length_erase_of_mem hal] at this
    have := List.length_pos_of_mem hal
    simp; omega
/-- Vertices in an order, each with the set of those that were left. -/
structure ElimO (p : Nat → Nat → Bool) (rs : List Int) (t : List Nat) : Prop where
  len : t.length = rs.length
  nodup : t.Nodup
  lt : ∀ x ∈ t, x < rs.length
  all : ∀ x, x < rs.length → x ∈ t
  step : ∀ i, i < t.length → ∃ Si, Si < 128 ∧ p Si (eln t i) = true ∧ ∀ x, Si.testBit x = true ↔ x < rs.length ∧ x ∉ t.take i
theorem chain_elim {p : Nat → Nat → Bool} {rs : List Int} (g : VG rs) (hp : ∀ S v, p S v = true → S.testBit v = true) {t : List Nat} (h : chainP p rs.length (2 ^ rs.length - 1) t) : ElimO p rs t := by
  have h128 := g.pow.1
  obtain ⟨a1, a2, a3, a4⟩ := chain_facts hp t _ (by omega) h
  have hall : ∀ x, (2 ^ rs.length - 1).testBit x = true ↔ x < rs.length := fun x => by rw [Nat.testBit_two_pow_sub_one, decide_eq_true_eq]
  refine ⟨Nat.le_antisymm (nodup_lt7 _ _ a2 a3) ?_, a2, a3, fun x hx => (a1 x).2 ((hall x).2 hx), fun i hi => ?_⟩
  · have := nodup_sub_len (List.range rs.length) t List.nodup_range fun x hx => (a1 x).2 ((hall x).2 (List.mem_range.1 hx))
    simpa using this
  · obtain ⟨Si, b1, b2, b3⟩ := a4 i hi
    exact ⟨Si, b1, b2, fun x => by rw [b3, hall]⟩
theorem ElimO.order {p : Nat → Nat → Bool} {rs : List Int} {t : List Nat} (h : ElimO p rs t) (hv : isGraphB rs.length rs = true) : orderB rs.length rs (t.map Int.ofNat) = true := by
  have hvb : vertsB rs.length rs (t.map Int.ofNat) = true := vertsB_true.2 ⟨hv, fun j hj => by
    rw [List.length_map] at hj
    have hl := h.lt _ (eln_mem hj)
    rw [gi_map t j hj]
    refine ⟨⟨by omega, by omega⟩, fun i hij e => ?_⟩
    rw [gi_map t i (by omega)] at e
    exact eln_ne h.nodup (by omega) hj (by omega) (Int.ofNat.inj e)⟩
  rw [orderB_of hvb, List.length_map, h.len]
  exact beq_self_eq_true _
theorem mem_take {t : List Nat} {i x : Nat} : x ∈ t.take i ↔ ∃ j, j < i ∧ j < t.length ∧ eln t j = x := by
  rw [List.mem_take_iff_getElem]
  constructor
  · rintro ⟨j, hj, rfl⟩
    refine ⟨j, by omega, by omega, ?_⟩
    simp [eln, show j < t.length by omega]
  · rintro ⟨j, h1, h2, rfl⟩
    exact ⟨j, by omega, by simp [eln, h2]⟩
/-- The later neighbours of a vertex, by the set that was left. -/
theorem ElimO.later {p : Nat → Nat → Bool} {rs : List Int} {t : List Nat} (h : ElimO p rs t) (hv : isGraphB rs.length rs = true) {i : Nat} (hi : i < t.length) {Si : Nat} (hS : ∀ x, Si.testBit x = true ↔ x < rs.length ∧ x ∉ t.take i) : laterN rs (t.map Int.ofNat) i = gn rs (eln t i) &&& Si := by
  have ho := (orderB_true (h.order hv)).1
  refine Nat.eq_of_testBit_eq fun x => ?_
  unfold laterN
  rw [gi_map t i hi, Int.toNat_natCast, Nat.testBit_and, Nat.testBit_and]
  congr 1
  rw [Bool.eq_iff_iff, behind_bit ho (by rw [List.length_map]; omega), hS, mem_take]
  refine and_congr_right fun _ => not_congr ?_
  constructor
  · rintro ⟨j, hj, e⟩
    rw [gi_map t j (by omega)] at e
    exact ⟨j, hj, by omega, Int.ofNat.inj e⟩
  · rintro ⟨j, hj, hjl, e⟩
    exact ⟨j, hj, by rw [gi_map t j hjl, e]⟩
theorem splB_bit (rs : List Int) : ∀ S v, splB rs S v = true → S.testBit v = true := fun S v h => by unfold splB at h; rw [Bool.and_eq_true] at h; exact h.1
/-- An elimination of the reference. -/
theorem elim_facts {n : Int} {rs l : List Int} (h : elimV n rs = some l) : n = rs.length ∧ isGraphB rs.length rs = true ∧ ∃ t : List Nat, l = t.map Int.ofNat ∧ ElimO (splB rs) rs t := by
  cases hv : isGraphB n rs
  · rw [elimV_no hv] at h; cases h
  · obtain ⟨rfl, g⟩ := VG.of hv
    rw [elimV_of hv] at h
    obtain ⟨t, e, ht⟩ := takeF_chain (splB_bit rs) _ _ _ _ (Nat.le_refl _) h
    exact ⟨rfl, hv, t, by simpa using e, chain_elim g (splB_bit rs) ht⟩
theorem ordF_take {rs : List Int} : ∀ (f S : Nat) (out : List Int), ordF rs f S out = takeF (fun S v => simpleB rs.length rs v S) rs.length f S out
  | 0, _, _ => rfl
  | f + 1, S, out => by
    show (if S = 0 then some out else match leastB rs S with | none => none | some v => ordF rs f (S - 2 ^ v) (out ++ [(v : Int)])) = (if S = 0 then some out else match leastP (fun S v => simpleB rs.length rs v S) rs.length S with | none => none | some v => takeF (fun S v => simpleB rs.length rs v S) rs.length f (S - 2 ^ v) (out ++ [(v : Int)]))
    have e : leastB rs S = leastP (fun S v => simpleB rs.length rs v S) rs.length S := rfl
    rw [e]
    split
    · rfl
    · cases leastP (fun S v => simpleB rs.length rs v S) rs.length S with
      | none => rfl
      | some v => exact ordF_take f _ _
theorem simple_bit (rs : List Int) : ∀ S v : Nat, simpleB rs.length rs v S = true → S.testBit v = true := fun _ _ h => (simple_left h).1
theorem simple_n {rs : List Int} {S v : Nat} (h : simpleB rs.length rs v S = true) : S < 2 ^ rs.length ∧ simpleN rs S v = true := by
  unfold simpleB at h
  rw [Bool.and_eq_true, Bool.and_eq_true, Bool.and_eq_true] at h
  obtain ⟨-, -, S', e, hS⟩ := isSetB_true h.1
  obtain rfl : S = S' := Int.ofNat.inj e
  have h3 := h.2.2
  rw [Bool.and_eq_true] at h3
  exact ⟨hS, by simpa using h3.2⟩
/-- A simple order is an elimination. -/
theorem simple_elim {n : Int} {rs l : List Int} (h : ordV n rs = some l) : orderB n rs l = true ∧ ∀ i, i < l.length → cliqueN rs (laterN rs l i) = true := by
  cases hv : isGraphB n rs
  · rw [ordV_no hv] at h; cases h
  · obtain ⟨rfl, g⟩ := VG.of hv
    rw [ordV_of hv, ordF_take] at h
    obtain ⟨t, e, ht⟩ := takeF_chain (simple_bit rs) _ _ _ _ (Nat.le_refl _) h
    have hE := chain_elim g (simple_bit rs) ht
    obtain rfl : l = t.map Int.ofNat := by simpa using e
    refine ⟨hE.order hv, fun i hi => ?_⟩
    rw [List.length_map] at hi
    obtain ⟨Si, b1, b2, b3⟩ := hE.step i hi
    rw [hE.later hv hi b3]
    obtain ⟨hS, hs⟩ := simple_n b2
    have h1 := (simple_iff g hS).1 hs
    have hlt : gn rs (eln t i) &&& Si < 2 ^ rs.length := Nat.lt_of_le_of_lt Nat.and_le_right hS
    refine (clique_iff g hlt).2 fun a b ha hb hne => ?_
    rw [Nat.testBit_and, Bool.and_eq_true] at ha hb
    rcases h1 a b ha.2 hb.2 (.inr ha.1) (.inr hb.1) with h | h
    · rcases h a ha.2 (.inl rfl) with e | e
      · exact absurd e.symm hne
      · rw [ad_symm g]; exact e
    · rcases h b hb.2 (.inl rfl) with e | e
      · exact absurd e hne
      · exact e

set_option maxHeartbeats 400000 in
theorem containsNone_any (xs : List Int) (K : Nat) (caps : Array Value) (ao : Option Addr) (n c : Nat) (w : World) (hx : IntsAt w ao xs) (hn : xs.length = n) (hl : n ≤ 1048576)
    (hE : ∀ args w, Sem.run Try.prog (callFunc K args) w = .ok (.enter K args) w) (hK : ∀ (m : Later w) (j : Nat), j < n → Calls Try.prog K (#[.int .i64 (gi xs j)] ++ caps) m.w fun e w' => e = .returned (.bool false) ∧ Below m.w.heap.size m.w w') :
    Calls Try.prog 108 #[.slice ao n c, .func (.func K) #[] caps] w fun e w' => e = .returned (.bool false) ∧ Below w.heap.size w w' := by
  have hF := indexFunc_any xs K caps (fun _ => false) ao n c w hx hn hl hE hK
  rw [firstB_none (p := fun _ => false) fun _ _ => rfl] at hF
  have hj : idxV none = -1 := rfl
  rw [hj] at hF
  clear hK hE hj
  go_enter Try.func108, Try.ntmps108
  go_wp2_with fail
  refine hF.mono ?_
  rintro e w2 ⟨rfl, hB2⟩
  clear hF
  have HhB2 := Lib.hid hB2
  clear hB2
  go_wp2_with fail
  go_ret
  exact ⟨rfl, HhB2.out⟩

set_option maxRecDepth 100000 in
set_option maxHeartbeats 600000 in
theorem implIsElim_any (rs l : List Int) (ro lo : Option Addr) (rc lc : Nat) (w : World) (ho : orderB rs.length rs l = true) (hE : ∀ i, i < l.length → cliqueN rs (laterN rs l i) = true) (hr : IntsAt w ro rs) (hl : IntsAt w lo l) (hcap : l.length ≤ lc) :
    Calls Try.prog 36 #[.agg #[.int .i64 rs.length, .slice ro rs.length rc], .slice lo l.length lc] w fun e w' => e = .returned (.bool true) ∧ Below w.heap.size w w' := by
  obtain ⟨hv, -, g, hlen⟩ := orderB_true ho
  have hN7 := g.le
  have hrl : rs.length ≤ 1048576 := by omega
  have hll : l.length ≤ 1048576 := by omega
  have Hhlen := Lib.hid hlen
  clear hlen
  go_enter Try.func36, Try.ntmps36
  go_wp2_with fail
  generalize hW : World.alloc _ _ = W1
  obtain ⟨hB, hs, k0, k1⟩ := alloc2 hW
  replace hr := hr.below hB
  replace hl := hl.below hB
  have hb0 := k0.lt
  have hb1 := k1.lt
  have hc0 := k0.cell 0
  have hc1 := k0.cell 1
  have hd0 := k1.cell 0
  simp at hc0 hc1 hd0
  have HhB := Lib.hid hB
  clear hB hW k0 k1 hs
  have hO := fun m : Later W1 => implIsOrder_any rs.length rs l ro lo rc lc m.w (hr.later m) hrl (hl.later m) hll hcap
  rw [ho] at hO
  have HC : Hid (∀ (W5 : World) (hB5 : Below W1.heap.size W1 W5) (i : Nat), i < l.length → Calls Try.prog 109 #[.int .i64 (gi l i), .pointer (some ⟨w.heap.size, 0, none⟩), .pointer (some ⟨w.heap.size + 1, 0, none⟩)] W5 fun e w' => e = .returned (.bool false) ∧ Below W5.heap.size W5 w') := Lib.hid (by
    intro W5 hB5 i hi
    have hr5 := hr.below hB5
    have hl5 := hl.below hB5
    have z0 := (hB5.cell (p := ⟨w.heap.size, 0, none⟩) hb0).trans hc0
    have z1 := (hB5.cell (p := ⟨w.heap.size, 1, none⟩) hb0).trans hc1
    have z2 := (hB5.cell (p := ⟨w.heap.size + 1, 0, none⟩) hb1).trans hd0
    have z3 := Nat.lt_of_lt_of_le hb0 hB5.size
    have z4 := Nat.lt_of_lt_of_le hb1 hB5.size
    have hEi := hE i hi
    clear hO hE hc0 hc1 hd0 hb0 hb1 hr hl hB5
    have hL := fun m : Later W5 => implLater_any rs l i ro lo rc lc m.w ho hi (hr5.later m) (hl5.later m) hcap
    have hQ := fun m : Later W5 => implisClique_any rs (laterN rs l i) ro rc m.w (hr5.later m) g (later_lt rs l i)
    rw [hEi] at hQ
    generalize laterN rs l i = Z at *
    generalize gi l i = x at *
    clear ho hv
    go_enter Try.func109, Try.ntmps109
    go_wp2_with fail
    refine wp_region_later (Later.refl W5) rfl (by kernel_rfl) (by kernel_rfl) ?_
    repeat (go_big_quiet_step ((first | (go_at_call 111; exact Calls.later _ (hL _)) | (go_at_call 110; exact Calls.later _ (hQ _)))))
    refine wpQuiet_nil ?_
    rintro _ ⟨m, rfl⟩
    go_wp2_with fail
    go_ret
    exact ⟨by simp, m.below⟩)
  clear hE ho
  obtain ⟨m, hm0⟩ : ∃ m : Later W1, m.w = W1 := ⟨Later.refl _, rfl⟩
  refine (fun h => hm0 ▸ h) ?_
  clear hm0
  have hF := fun m : Later W1 => containsNone_any l 109 #[.pointer (some ⟨w.heap.size, 0, none⟩), .pointer (some ⟨w.heap.size + 1, 0, none⟩)] lo l.length lc m.w (hl.later m) rfl hll (fun _ _ => rfl) (fun m2 j hj => HC.out m2.w (below_more m.below m2.below) j hj)
  refine (Calls.later m (hO m)).mono ?_
  rintro e w' ⟨rfl, m, rfl⟩
  go_wp2_with fail
  refine (Calls.later m (hF m)).mono ?_
  rintro e w' ⟨rfl, m, rfl⟩
  go_wp2_with fail
  go_ret
  exact ⟨rfl, below_later HhB.out m⟩

end Go.Proofs.Ytgklgheaojoimaa
