/-
  Perfect graphs of at most six vertices: obstacles, complements, covers. No conditions beyond that.
-/
import Derived.Test.YtfkehmpckhmkbaaGreatPkLawPerfect32
import Derived.Test.YtfkehmpckhmkbaaGreatPkLawPerfect16
namespace Go.Proofs.YtfkehmpckhmkbaaGreat

/-- A hole of five vertices, in a circle. -/
structure C5 (rs : List Int) (a b c d e : Nat) : Prop where
  ab : ad rs a b = true
  bc : ad rs b c = true
  cd : ad rs c d = true
  de : ad rs d e = true
  ea : ad rs e a = true
  ac : ad rs a c = false
  a_d : ad rs a d = false
  bd : ad rs b d = false
  be : ad rs b e = false
  ce : ad rs c e = false
def v5 (a b c d e : Nat) : Fin 5 → Nat
  | 0 => a
  | 1 => b
  | 2 => c
  | 3 => d
  | 4 => e
def tab5 (i j : Fin 5) : Bool := decide ((i.val + 1) % 5 = j.val) || decide ((j.val + 1) % 5 = i.val)
theorem C5.tab {rs : List Int} {a b c d e : Nat} (g : VG rs) (h : C5 rs a b c d e) : ∀ i j : Fin 5, ad rs (v5 a b c d e i) (v5 a b c d e j) = tab5 i j := by
  intro i j
  exact match i, j with
    | 0, 0 => ad_irr g _
    | 0, 1 => h.ab
    | 0, 2 => h.ac
    | 0, 3 => h.a_d
    | 0, 4 => (ad_symm g _ _).trans h.ea
    | 1, 0 => (ad_symm g _ _).trans h.ab
    | 1, 1 => ad_irr g _
    | 1, 2 => h.bc
    | 1, 3 => h.bd
    | 1, 4 => h.be
    | 2, 0 => (ad_symm g _ _).trans h.ac
    | 2, 1 => (ad_symm g _ _).trans h.bc
    | 2, 2 => ad_irr g _
    | 2, 3 => h.cd
    | 2, 4 => h.ce
    | 3, 0 => (ad_symm g _ _).trans h.a_d
    | 3, 1 => (ad_symm g _ _).trans h.bd
    | 3, 2 => (ad_symm g _ _).trans h.cd
    | 3, 3 => ad_irr g _
    | 3, 4 => h.de
    | 4, 0 => h.ea
    | 4, 1 => (ad_symm g _ _).trans h.be
    | 4, 2 => (ad_symm g _ _).trans h.ce
    | 4, 3 => (ad_symm g _ _).trans h.de
    | 4, 4 => ad_irr g _
theorem C5.lt {rs : List Int} {a b c d e : Nat} (g : VG rs) (h : C5 rs a b c d e) : ∀ i, v5 a b c d e i < rs.length := fun i =>
  match i with
  | 0 => (ad_lt g h.ab).1
  | 1 => (ad_lt g h.bc).1
  | 2 => (ad_lt g h.cd).1
  | 3 => (ad_lt g h.de).1
  | 4 => (ad_lt g h.ea).1
theorem tab5_sep : ∀ i j : Fin 5, i ≠ j → ∃ k, tab5 i k ≠ tab5 j k := by decide
theorem C5.inj {rs : List Int} {a b c d e : Nat} (g : VG rs) (h : C5 rs a b c d e) {i j : Fin 5} (he : v5 a b c d e i = v5 a b c d e j) : i = j := by
  refine Classical.byContradiction fun hne => ?_
  obtain ⟨k, hk⟩ := tab5_sep i j hne
  exact hk (by rw [← h.tab g, ← h.tab g, he])
theorem C5.nodup {rs : List Int} {a b c d e : Nat} (g : VG rs) (h : C5 rs a b c d e) : [a, b, c, d, e].Nodup := by
  have H : ∀ i j : Fin 5, i ≠ j → v5 a b c d e i ≠ v5 a b c d e j := fun i j hne he => hne (h.inj g he)
  have h01 : a ≠ b := H 0 1 (by decide)
  have h02 : a ≠ c := H 0 2 (by decide)
  have h03 : a ≠ d := H 0 3 (by decide)
  have h04 : a ≠ e := H 0 4 (by decide)
  have h12 : b ≠ c := H 1 2 (by decide)
  have h13 : b ≠ d := H 1 3 (by decide)
  have h14 : b ≠ e := H 1 4 (by decide)
  have h23 : c ≠ d := H 2 3 (by decide)
  have h24 : c ≠ e := H 2 4 (by decide)
  have h34 : d ≠ e := H 3 4 (by decide)
  simp [h01, h02, h03, h04, h12, h13, h14, h23, h24, h34]
theorem mem_v5 {a b c d e y : Nat} : y ∈ [a, b, c, d, e] ↔ ∃ i, v5 a b c d e i = y := by
  constructor
  · intro h
    simp only [List.mem_cons] at h
    rcases h with rfl | rfl | rfl | rfl | rfl | h
    · exact ⟨0, rfl⟩
    · exact ⟨1, rfl⟩
    · exact ⟨2, rfl⟩
    · exact ⟨3, rfl⟩
    · exact ⟨4, rfl⟩
    · simp at h
  · rintro ⟨i, rfl⟩
    match i with
    | 0 => simp [v5]
    | 1 => simp [v5]
    | 2 => simp [v5]
    | 3 => simp [v5]
    | 4 => simp [v5]
theorem tab5_hole : ∀ i j : Fin 5, j.val < i.val → tab5 j i = holeP 5 j.val i.val := by decide
theorem v5_eln {a b c d e : Nat} : ∀ i : Fin 5, eln [a, b, c, d, e] i.val = v5 a b c d e i := fun i => match i with
  | 0 => rfl
  | 1 => rfl
  | 2 => rfl
  | 3 => rfl
  | 4 => rfl
theorem C5.join {rs : List Int} {a b c d e : Nat} (hv : isGraphB rs.length rs = true) (h : C5 rs a b c d e) : joinB rs.length rs ([a, b, c, d, e].map Int.ofNat) (holeP 5) = true := by
  have g := (VG.of hv).2
  have hn := h.nodup g
  refine joinB_ok (vertsB_true.2 ⟨hv, fun j hj => ?_⟩) fun i hi j hj => ?_
  · rw [List.length_map] at hj
    have hj5 : j < 5 := hj
    have hlt := h.lt g ⟨j, hj5⟩
    rw [gi_map _ j hj, v5_eln ⟨j, hj5⟩]
    refine ⟨⟨by omega, by omega⟩, fun i hij he => ?_⟩
    have hi : i < [a, b, c, d, e].length := Nat.lt_trans hij hj
    rw [gi_map _ i hi, v5_eln ⟨i, by omega⟩] at he
    have := h.inj g (Int.ofNat.inj he)
    have := congrArg Fin.val this
    simp at this; omega
  · rw [List.length_map] at hi
    have hi5 : i < 5 := hi
    have hjl : j < [a, b, c, d, e].length := Nat.lt_trans hj hi
    unfold joinedAt
    rw [gi_map _ j hjl, gi_map _ i hi, Int.toNat_natCast, Int.toNat_natCast, v5_eln ⟨i, hi5⟩, v5_eln ⟨j, by omega⟩]
    have := h.tab g ⟨j, by omega⟩ ⟨i, hi5⟩
    unfold ad at this
    rw [this, tab5_hole ⟨i, hi5⟩ ⟨j, by omega⟩ hj]
    simp
theorem C5.c5 {rs : List Int} {a b c d e : Nat} (hv : isGraphB rs.length rs = true) (h : C5 rs a b c d e) : c5 rs := by
  have g := (VG.of hv).2
  refine ⟨[a, b, c, d, e], rfl, h.nodup g, fun y hy => ?_, h.join hv⟩
  obtain ⟨i, rfl⟩ := mem_v5.1 hy
  exact h.lt g i
theorem C5.of {rs : List Int} (g : VG rs) {t : List Nat} (hl : t.length = 5) (h : joinB rs.length rs (t.map Int.ofNat) (holeP 5) = true) : ∃ a b c d e, C5 rs a b c d e := by
  match t, hl, h with
  | [a, b, c, d, e], _, h =>
    have H : ∀ i j, j < i → i < 5 → ad rs (eln [a, b, c, d, e] j) (eln [a, b, c, d, e] i) = holeP 5 j i := fun i j hj hi => by
      rw [ad_symm g]; exact join_ad g h (i := i) (j := j) hi hj
    exact ⟨a, b, c, d, e, H 1 0 (by omega) (by omega), H 2 1 (by omega) (by omega), H 3 2 (by omega) (by omega), H 4 3 (by omega) (by omega), (ad_symm g _ _).trans (H 4 0 (by omega) (by omega)), H 2 0 (by omega) (by omega), H 3 0 (by omega) (by omega), H 3 1 (by omega) (by omega), H 4 1 (by omega) (by omega), H 4 2 (by omega) (by omega)⟩
theorem c5_get {rs : List Int} (g : VG rs) (h : c5 rs) : ∃ a b c d e, C5 rs a b c d e := by
  obtain ⟨t, h1, -, -, h4⟩ := h
  exact C5.of g h1 h4

/-! ### Parts and complements -/
theorem ind_ad {rs : List Int} {S i j : Nat} (hi : i < cnt S) (hj : j < cnt S) : ad (ind rs S) i j = ad rs (eln (els S) i) (eln (els S) j) := by
  unfold ad
  rw [ind_gn hi, indRow_bit, decide_eq_true hj, Bool.true_and]
theorem ind_VG {rs : List Int} (g : VG rs) {S : Nat} (hS : S < 2 ^ rs.length) (h0 : 0 < S) : isGraphB (ind rs S).length (ind rs S) = true := by
  rw [ind_len]; exact ind_graph g hS h0
theorem c5_ind {rs : List Int} (hv : isGraphB rs.length rs = true) {S : Nat} (hS : S < 2 ^ rs.length) (h0 : 0 < S) (h : c5 (ind rs S)) : c5 rs := by
  have g := (VG.of hv).2
  have gi := (VG.of (ind_VG g hS h0)).2
  obtain ⟨a, b, c, d, e, h⟩ := c5_get gi h
  have hlt := fun i => by have := h.lt gi i; rw [ind_len] at this; exact this
  have ha : a < cnt S := hlt 0
  have hb : b < cnt S := hlt 1
  have hc : c < cnt S := hlt 2
  have hd : d < cnt S := hlt 3
  have he : e < cnt S := hlt 4
  refine C5.c5 hv (a := eln (els S) a) (b := eln (els S) b) (c := eln (els S) c) (d := eln (els S) d) (e := eln (els S) e) ⟨?_, ?_, ?_, ?_, ?_, ?_, ?_, ?_, ?_, ?_⟩
  · rw [← ind_ad ha hb]; exact h.ab
  · rw [← ind_ad hb hc]; exact h.bc
  · rw [← ind_ad hc hd]; exact h.cd
  · rw [← ind_ad hd he]; exact h.de
  · rw [← ind_ad he ha]; exact h.ea
  · rw [← ind_ad ha hc]; exact h.ac
  · rw [← ind_ad ha hd]; exact h.a_d
  · rw [← ind_ad hb hd]; exact h.bd
  · rw [← ind_ad hb he]; exact h.be
  · rw [← ind_ad hc he]; exact h.ce
theorem compl_ad {rs : List Int} {a b : Nat} (ha : a < rs.length) (hb : b < rs.length) (hne : a ≠ b) : ad (compl rs) a b = !ad rs a b := by
  have e : gn (compl rs) a = complRow rs a := by unfold gn; rw [compl_at ha, Int.toNat_natCast]
  unfold ad
  rw [e, Bool.eq_iff_iff, complRow_bit]
  cases (gn rs a).testBit b <;> simp [hb, hne]
theorem c5_compl {rs : List Int} (hv : isGraphB rs.length rs = true) (h : c5 rs) : c5 (compl rs) := by
  have g := (VG.of hv).2
  have hvc := compl_graph g
  rw [← compl_len rs] at hvc
  obtain ⟨a, b, c, d, e, h⟩ := c5_get g h
  have ha : a < rs.length := h.lt g 0
  have hb : b < rs.length := h.lt g 1
  have hc : c < rs.length := h.lt g 2
  have hd : d < rs.length := h.lt g 3
  have he : e < rs.length := h.lt g 4
  have H : ∀ i j : Fin 5, i ≠ j → v5 a b c d e i ≠ v5 a b c d e j := fun i j hne he => hne (h.inj g he)
  have T := h.tab g
  refine C5.c5 hvc (a := a) (b := c) (c := e) (d := b) (e := d) ⟨?_, ?_, ?_, ?_, ?_, ?_, ?_, ?_, ?_, ?_⟩
  · rw [compl_ad ha hc (H 0 2 (by decide)), show ad rs a c = _ from T 0 2]; rfl
  · rw [compl_ad hc he (H 2 4 (by decide)), show ad rs c e = _ from T 2 4]; rfl
  · rw [compl_ad he hb (H 4 1 (by decide)), show ad rs e b = _ from T 4 1]; rfl
  · rw [compl_ad hb hd (H 1 3 (by decide)), show ad rs b d = _ from T 1 3]; rfl
  · rw [compl_ad hd ha (H 3 0 (by decide)), show ad rs d a = _ from T 3 0]; rfl
  · rw [compl_ad ha he (H 0 4 (by decide)), show ad rs a e = _ from T 0 4]; rfl
  · rw [compl_ad ha hb (H 0 1 (by decide)), show ad rs a b = _ from T 0 1]; rfl
  · rw [compl_ad hc hb (H 2 1 (by decide)), show ad rs c b = _ from T 2 1]; rfl
  · rw [compl_ad hc hd (H 2 3 (by decide)), show ad rs c d = _ from T 2 3]; rfl
  · rw [compl_ad he hd (H 4 3 (by decide)), show ad rs e d = _ from T 4 3]; rfl
theorem compl_twice {rs : List Int} (g : VG rs) : ∀ a b, ad (compl (compl rs)) a b = ad rs a b := fun a b => by
  have gc := (VG.of (compl_graph g)).2
  have gcc := (VG.of (compl_graph gc)).2
  by_cases ha : a < rs.length
  · by_cases hb : b < rs.length
    · by_cases e : a = b
      · subst e; rw [ad_irr gcc, ad_irr g]
      · rw [compl_ad (by rw [compl_len]; exact ha) (by rw [compl_len]; exact hb) e, compl_ad ha hb e, Bool.not_not]
    · cases h : ad rs a b
      · cases h2 : ad (compl (compl rs)) a b
        · rfl
        · have := (ad_lt gcc h2).2; rw [compl_len, compl_len] at this; omega
      · exact absurd (ad_lt g h).2 hb
  · cases h : ad rs a b
    · cases h2 : ad (compl (compl rs)) a b
      · rfl
      · have := (ad_lt gcc h2).1; rw [compl_len, compl_len] at this; omega
    · exact absurd (ad_lt g h).1 ha
theorem c5_compl_iff {rs : List Int} (hv : isGraphB rs.length rs = true) : c5 (compl rs) ↔ c5 rs := by
  refine ⟨fun h => ?_, c5_compl hv⟩
  have g := (VG.of hv).2
  have hvc := compl_graph g
  rw [← compl_len rs] at hvc
  have gc := (VG.of hvc).2
  obtain ⟨a, b, c, d, e, h⟩ := c5_get (VG.of (compl_graph gc)).2 (c5_compl hvc h)
  have T := compl_twice g
  exact C5.c5 hv ⟨(T _ _).symm.trans h.ab, (T _ _).symm.trans h.bc, (T _ _).symm.trans h.cd, (T _ _).symm.trans h.de, (T _ _).symm.trans h.ea, (T _ _).symm.trans h.ac, (T _ _).symm.trans h.a_d, (T _ _).symm.trans h.bd, (T _ _).symm.trans h.be, (T _ _).symm.trans h.ce⟩

/-! ### Five vertices need three colours -/
theorem tab5_tri : ∀ i j k : Fin 5, tab5 i j = true → tab5 j k = true → tab5 i k = true → False := by decide
theorem c5_bad {q : List Int} (hv : isGraphB q.length q = true) (h5 : q.length = 5) (h : c5 q) : clqN q.length q < chromV q.length q := by
  have g := (VG.of hv).2
  obtain ⟨a, b, c, d, e, h⟩ := c5_get g h
  have hall : ∀ y, y < q.length → ∃ i, v5 a b c d e i = y := fun y hy => by
    refine mem_v5.1 (full_of_nodup [a, b, c, d, e] (List.range 5) (h.nodup g) (fun x hx => ?_) (by simp) y (List.mem_range.2 (by omega)))
    obtain ⟨i, rfl⟩ := mem_v5.1 hx
    have := h.lt g i
    exact List.mem_range.2 (by omega)
  have T := h.tab g
  -- no three of them are a clique
  have hclq : clqN q.length q ≤ 2 := by
    rw [clqN_of hv]
    have h0 : cliqueB q.length q ((0 : Nat) : Int) = true := by rw [cliqueB_nat (isSetB_mk hv (Nat.two_pow_pos _))]; exact cliqueN_zero q
    have ht := (largest_best (p := fun S : Nat => cliqueB q.length q S) h0 (2 ^ q.length)).1
    have hlt := largestTo_lt (fun S : Nat => cliqueB q.length q S) (2 ^ q.length) (Nat.two_pow_pos _)
    generalize largestTo (fun S : Nat => cliqueB q.length q S) (2 ^ q.length) = K at *
    rw [cliqueB_nat (isSetB_mk hv hlt)] at ht
    have hK := (clique_iff g hlt).1 ht
    rcases Nat.lt_or_ge 2 (cnt K) with h3 | h3
    · exfalso
      have hm : ∀ i, i < 3 → K.testBit (eln (els K) i) = true ∧ eln (els K) i < q.length := fun i hi => by
        have := els_at hlt g.le (k := i) (by omega)
        exact ⟨this.2, this.1⟩
      have hd : ∀ i j, i < 3 → j < 3 → i ≠ j → eln (els K) i ≠ eln (els K) j := fun i j hi hj hne => eln_ne (els_nd K) (by show i < cnt K; omega) (by show j < cnt K; omega) hne
      obtain ⟨i, ei⟩ := hall _ (hm 0 (by omega)).2
      obtain ⟨j, ej⟩ := hall _ (hm 1 (by omega)).2
      obtain ⟨k, ek⟩ := hall _ (hm 2 (by omega)).2
      refine tab5_tri i j k ?_ ?_ ?_
      · rw [← T, ei, ej]; exact hK _ _ (hm 0 (by omega)).1 (hm 1 (by omega)).1 (hd 0 1 (by omega) (by omega) (by omega))
      · rw [← T, ej, ek]; exact hK _ _ (hm 1 (by omega)).1 (hm 2 (by omega)).1 (hd 1 2 (by omega) (by omega) (by omega))
      · rw [← T, ei, ek]; exact hK _ _ (hm 0 (by omega)).1 (hm 2 (by omega)).1 (hd 0 2 (by omega) (by omega) (by omega))
    · omega
  -- two colours are not enough
  obtain ⟨k, x, k1, k2, k3, k4, k5, k6, k7, k8, -⟩ := col_facts hv
  obtain ⟨k', x', e1, -, -, e4, e5, e6⟩ := chrom_facts hv
  obtain rfl : k' = k := by omega
  obtain rfl : x' = x := by rw [k5] at e4; exact (Option.some.inj e4).symm
  rcases Nat.lt_or_ge 2 k' with h3 | h3
  · omega
  · exfalso
    have hne : ∀ u w, ad q u w = true → gi x' u ≠ gi x' w := fun u w huw => by
      obtain ⟨h1, h2⟩ := ad_lt g huw
      rcases Nat.lt_trichotomy u w with h | h | h
      · have h4 : (gn q w).testBit u = true := by have := huw; rw [ad_symm g] at this; exact this
        exact k8 w u (by omega) h h4
      · subst h; rw [ad_irr g] at huw; cases huw
      · exact fun e => k8 u w (by omega) h huw e.symm
    have hb : ∀ i, ∃ z : Nat, z < k' ∧ gi x' (v5 a b c d e i) = (z : Int) := fun i => e6 _ (h.lt g i)
    obtain ⟨ca, a1, a2⟩ := hb 0
    obtain ⟨cb, b1, b2⟩ := hb 1
    obtain ⟨cc, c1, c2⟩ := hb 2
    obtain ⟨cd, d1, d2⟩ := hb 3
    obtain ⟨ce, e1', e2⟩ := hb 4
    have n1 := hne _ _ h.ab
    have n2 := hne _ _ h.bc
    have n3 := hne _ _ h.cd
    have n4 := hne _ _ h.de
    have n5 := hne _ _ h.ea
    have a2 : gi x' a = ca := a2
    have b2 : gi x' b = cb := b2
    have c2 : gi x' c = cc := c2
    have d2 : gi x' d = cd := d2
    have e2 : gi x' e = ce := e2
    rw [a2, b2] at n1
    rw [b2, c2] at n2
    rw [c2, d2] at n3
    rw [d2, e2] at n4
    rw [e2, a2] at n5
    omega
/-- The set of some vertices. -/
theorem set_of : ∀ t : List Nat, ∀ N, (∀ y ∈ t, y < N) → ∃ S, S < 2 ^ N ∧ ∀ x, S.testBit x = true ↔ x ∈ t
  | [], N, _ => ⟨0, Nat.two_pow_pos _, fun x => by simp⟩
  | a :: t, N, h => by
    obtain ⟨S, h1, h2⟩ := set_of t N fun y hy => h y (List.mem_cons_of_mem _ hy)
    refine ⟨S ||| 2 ^ a, Nat.or_lt_two_pow h1 (Nat.pow_lt_pow_right (by decide) (h a (by simp))), fun x => ?_⟩
    rw [Nat.testBit_or, Nat.testBit_two_pow, Bool.or_eq_true, decide_eq_true_eq, h2, List.mem_cons]
    exact ⟨fun h => h.elim .inr fun e => .inl e.symm, fun h => h.elim (fun e => .inr e.symm) .inl⟩
theorem c5_badP {rs : List Int} (hv : isGraphB rs.length rs = true) (h : c5 rs) : ∃ S, S < 2 ^ rs.length ∧ badP rs S = true := by
  have g := (VG.of hv).2
  obtain ⟨a, b, c, d, e, h⟩ := c5_get g h
  obtain ⟨S, hS, hb⟩ := set_of [a, b, c, d, e] rs.length fun y hy => by
    obtain ⟨i, rfl⟩ := mem_v5.1 hy
    exact h.lt g i
  have h0 : 0 < S := by
    rcases Nat.eq_zero_or_pos S with e | e
    · subst e
      have := (hb a).2 (by simp)
      simp at this
    · exact e
  have hmem : ∀ x, x ∈ els S ↔ x ∈ [a, b, c, d, e] := fun x => by rw [mem_els hS g.le, hb]
  have hc5 : cnt S = 5 := by
    have h1 := nodup_sub_len (els S) [a, b, c, d, e] (els_nd S) fun x hx => (hmem x).1 hx
    have h2 := nodup_sub_len [a, b, c, d, e] (els S) (h.nodup g) fun x hx => (hmem x).2 hx
    have e1 : cnt S = (els S).length := rfl
    simp at h1 h2
    omega
  have hgi := ind_VG g hS h0
  have hpos : ∀ i, ∃ k, k < cnt S ∧ eln (els S) k = v5 a b c d e i := fun i => mem_eln ((hmem _).2 (mem_v5.2 ⟨i, rfl⟩))
  obtain ⟨p0, l0, q0⟩ := hpos 0
  obtain ⟨p1, l1, q1⟩ := hpos 1
  obtain ⟨p2, l2, q2⟩ := hpos 2
  obtain ⟨p3, l3, q3⟩ := hpos 3
  obtain ⟨p4, l4, q4⟩ := hpos 4
  have hc : c5 (ind rs S) := C5.c5 hgi (a := p0) (b := p1) (c := p2) (d := p3) (e := p4) ⟨by rw [ind_ad l0 l1, q0, q1]; exact h.ab, by rw [ind_ad l1 l2, q1, q2]; exact h.bc, by rw [ind_ad l2 l3, q2, q3]; exact h.cd, by rw [ind_ad l3 l4, q3, q4]; exact h.de, by rw [ind_ad l4 l0, q4, q0]; exact h.ea,
    by rw [ind_ad l0 l2, q0, q2]; exact h.ac, by rw [ind_ad l0 l3, q0, q3]; exact h.a_d, by rw [ind_ad l1 l3, q1, q3]; exact h.bd, by rw [ind_ad l1 l4, q1, q4]; exact h.be, by rw [ind_ad l2 l4, q2, q4]; exact h.ce⟩
  have := c5_bad hgi (by rw [ind_len]; exact hc5) hc
  rw [ind_len] at this
  exact ⟨S, hS, by rw [badP_of h0 rfl rfl]; exact decide_eq_true this⟩
theorem no_badP {rs : List Int} (hv : isGraphB rs.length rs = true) (h6 : rs.length ≤ 6) (h : ¬c5 rs) {S : Nat} (hS : S < 2 ^ rs.length) : badP rs S = false := by
  have g := (VG.of hv).2
  by_cases h0 : 0 < S
  · have hgi := ind_VG g hS h0
    have hle : cnt S ≤ rs.length := by
      have := nodup_sub_len (els S) (List.range rs.length) (els_nd S) fun x hx => List.mem_range.2 (testBit_lt hS ((mem_els hS g.le).1 hx))
      have e : cnt S = (els S).length := rfl
      rw [e]
      simpa using this
    have := no_c5 hgi (by rw [ind_len]; omega) fun hc => h (c5_ind hv hS h0 hc)
    rw [ind_len] at this
    rw [badP_of h0 rfl rfl]
    exact decide_eq_false (by omega)
  · obtain rfl : S = 0 := by omega
    exact badP_zero rs
/-- Perfect: no hole of five vertices. -/
theorem perfect_iff {rs : List Int} (hv : isGraphB rs.length rs = true) (h6 : rs.length ≤ 6) : perfectB rs.length rs = true ↔ ¬c5 rs := by
  unfold perfectB
  rw [hv, Bool.true_and]
  unfold badO
  rw [leastO_of hv]
  constructor
  · intro h hc
    obtain ⟨S, hS, hb⟩ := c5_badP hv hc
    cases hf : firstB (badP rs) (2 ^ rs.length) with
    | none =>
      unfold firstB at hf
      rw [List.find?_eq_none] at hf
      exact hf S (List.mem_range.2 hS) hb
    | some k => rw [hf] at h; cases h
  · intro h
    rw [firstB_none fun S hS => no_badP hv h6 h hS]; rfl

/-! ### Odd holes -/
theorem oddHole_c5 {rs x : List Int} (hv : isGraphB rs.length rs = true) (h6 : rs.length ≤ 6) (h : oddHoleV rs.length rs = some x) : holeB rs.length rs x = true ∧ x.length = 5 ∧ c5 rs := by
  have g := (VG.of hv).2
  unfold oddHoleV at h
  rw [if_pos hv] at h
  cases hf : firstB (fun j => decide (5 + 2 * j ≤ rs.length) && (holeAt rs (5 + 2 * j)).isSome) 2 with
  | none => rw [hf] at h; cases h
  | some j =>
    rw [hf] at h
    have h : holeAt rs (5 + 2 * j) = some x := h
    unfold firstB at hf
    have h1 := List.find?_some hf
    rw [Bool.and_eq_true, decide_eq_true_eq] at h1
    obtain rfl : j = 0 := by omega
    unfold holeAt at h
    obtain ⟨hB, t, e, hl⟩ := dfs_from _ _ _ _ _ _ h
    have e : x = t := e
    subst e
    have hl : x.length = 5 := hl
    have hB2 := hB
    unfold holeB at hB2
    rw [Bool.and_eq_true, hl] at hB2
    have hvx : vertsB rs.length rs x = true := by have := hB2.2; unfold joinB at this; rw [Bool.and_eq_true] at this; exact this.1
    obtain ⟨t, rfl, -, -⟩ := nat_list hvx
    obtain ⟨a, b, c, d, e, hc⟩ := C5.of g (by simpa using hl) hB2.2
    exact ⟨hB, hl, hc.c5 hv⟩
theorem c5_oddHole {rs : List Int} (hv : isGraphB rs.length rs = true) (h : c5 rs) : (oddHoleV rs.length rs).isSome = true := by
  obtain ⟨t, h1, h2, h3, h4⟩ := h
  have g := (VG.of hv).2
  have hle := nodup_lt7 _ _ h2 h3
  have hB : holeB rs.length rs (t.map Int.ofNat) = true := by
    unfold holeB
    rw [List.length_map, h1, h4]; rfl
  have hA : (holeAt rs 5).isSome = true := by
    have := dfs_some (nec_mayI rs 5) (N := rs.length) (t.map Int.ofNat) [] (by simpa using h1) (by simpa using hB) (fun y hy => by
      obtain ⟨v, hv2, rfl⟩ := List.mem_map.1 hy
      exact ⟨v, h3 v hv2, rfl⟩)
    rwa [List.length_map, h1] at this
  unfold oddHoleV
  rw [if_pos hv, firstB_hit (k := 0) (by omega) (fun j hj => by omega) (by rw [hA, decide_eq_true (by omega)]; rfl)]
  exact hA
theorem antiV_eq {rs : List Int} (hv : isGraphB rs.length rs = true) : antiV rs.length rs = oddHoleV (compl rs).length (compl rs) := by rw [antiV_of hv, compl_len]
/-- Perfect exactly if there is no obstacle; an obstacle that is found is one. -/
theorem perf_obst {rs : List Int} (hv : isGraphB rs.length rs = true) (h6 : rs.length ≤ 6) : perfectB rs.length rs = !(obstV rs.length rs).isSome ∧ ∀ x, obstV rs.length rs = some x → perfB rs.length rs x = true := by
  have g := (VG.of hv).2
  have hvc := compl_graph g
  rw [← compl_len rs] at hvc
  have h6c : (compl rs).length ≤ 6 := by rw [compl_len]; exact h6
  have key : ∀ x, obstV rs.length rs = some x → perfB rs.length rs x = true ∧ c5 rs := fun x h => by
    unfold obstV at h
    cases ho : oddHoleV rs.length rs with
    | some y =>
      rw [ho] at h
      obtain rfl : y = x := Option.some.inj h
      obtain ⟨e1, e2, e3⟩ := oddHole_c5 hv h6 ho
      exact ⟨by rw [perfB_of hv (by omega), e1]; rfl, e3⟩
    | none =>
      rw [ho] at h
      have h : antiV rs.length rs = some x := h
      rw [antiV_eq hv] at h
      obtain ⟨e1, e2, e3⟩ := oddHole_c5 hvc h6c h
      rw [compl_len] at e1
      exact ⟨by rw [perfB_of hv (by omega), e1, Bool.or_true], (c5_compl_iff hv).1 e3⟩
  refine ⟨?_, fun x h => (key x h).1⟩
  cases ho : obstV rs.length rs with
  | some x =>
    cases hp : perfectB rs.length rs
    · rfl
    · exact absurd (key x ho).2 ((perfect_iff hv h6).1 hp)
  | none =>
    refine (perfect_iff hv h6).2 fun hc => ?_
    have := c5_oddHole hv hc
    unfold obstV at ho
    cases hq : oddHoleV rs.length rs with
    | some y => rw [hq] at ho; cases ho
    | none => rw [hq] at this; cases this
theorem perf_compl {rs : List Int} (hv : isGraphB rs.length rs = true) (h6 : rs.length ≤ 6) : perfectB rs.length (compl rs) = perfectB rs.length rs := by
  have g := (VG.of hv).2
  have hvc := compl_graph g
  have h1 := perfect_iff hv h6
  have h2 := perfect_iff (rs := compl rs) (by rw [compl_len]; exact hvc) (by rw [compl_len]; exact h6)
  rw [compl_len, c5_compl_iff hv] at h2
  rw [Bool.eq_iff_iff, h1, h2]
theorem perf_col {rs : List Int} (hv : isGraphB rs.length rs = true) (h6 : rs.length ≤ 6) (h : perfectB rs.length rs = true) : chromV rs.length rs = clqN rs.length rs := by
  have h1 := no_c5 hv h6 ((perfect_iff hv h6).1 h)
  obtain ⟨k, x, k1, k2, k3, k4, -⟩ := col_facts hv
  omega
/-- Independent sets are cliques of the complement. -/
theorem indep_compl {rs : List Int} (g : VG rs) {S : Nat} (hS : S < 2 ^ rs.length) : indepN rs S = cliqueN (compl rs) S := by
  have gc := (VG.of (compl_graph g)).2
  have hlt : ∀ a, S.testBit a = true → a < rs.length := fun a ha => testBit_lt hS ha
  have h128 := g.pow.1
  have hN : indepN rs S = true ↔ ∀ a b, S.testBit a = true → S.testBit b = true → ad rs a b = false := by
    unfold indepN
    rw [decide_eq_true_eq, and_zero]
    constructor
    · intro h a b ha hb
      cases e : ad rs a b
      · rfl
      · have := h b ((nbrs_bit (by omega)).2 ⟨a, ha, e⟩)
        rw [hb] at this; cases this
    · intro h i hi
      obtain ⟨a, ha, e⟩ := (nbrs_bit (by omega)).1 hi
      cases hb : S.testBit i
      · rfl
      · have := h a i ha hb
        unfold ad at this
        rw [e] at this; cases this
  rw [Bool.eq_iff_iff, hN, clique_iff gc (by rw [compl_len]; exact hS)]
  constructor
  · intro h a b ha hb hne
    rw [compl_ad (hlt a ha) (hlt b hb) hne, h a b ha hb]; rfl
  · intro h a b ha hb
    by_cases e : a = b
    · subst e; exact ad_irr g a
    · have := h a b ha hb e
      rw [compl_ad (hlt a ha) (hlt b hb) e] at this
      simpa using this
theorem largestTo_congr {p q : Nat → Bool} : ∀ k, (∀ S, S < k → p S = q S) → largestTo p k = largestTo q k
  | 0, _ => rfl
  | k + 1, h => by
    show (if cnt (largestTo p k) < cnt k ∧ p k = true then k else largestTo p k) = (if cnt (largestTo q k) < cnt k ∧ q k = true then k else largestTo q k)
    rw [largestTo_congr k fun S hS => h S (by omega), h k (by omega)]
/-- A cover by cliques with as many as an independent set has vertices. -/
theorem perf_cover {rs : List Int} (hv : isGraphB rs.length rs = true) (h6 : rs.length ≤ 6) (h : perfectB rs.length rs = true) : ∃ I : Nat, I < 2 ^ rs.length ∧ largestV rs.length rs (fun S => indepB rs.length rs S) = (I : Int) ∧ (coverOf rs.length rs).length = cnt I := by
  have g := (VG.of hv).2
  have hvc := compl_graph g
  have hvc2 : isGraphB (compl rs).length (compl rs) = true := by rw [compl_len]; exact hvc
  have h2 := perf_col hvc2 (by rw [compl_len]; exact h6) (by rw [compl_len, perf_compl hv h6]; exact h)
  rw [compl_len] at h2
  have e : largestTo (fun S : Nat => indepB rs.length rs S) (2 ^ rs.length) = largestTo (fun S : Nat => cliqueB (compl rs).length (compl rs) S) (2 ^ (compl rs).length) := by
    rw [compl_len]
    refine largestTo_congr _ fun S hS => ?_
    have hS2 : S < 2 ^ (compl rs).length := by rw [compl_len]; exact hS
    have h1 := isSetB_mk hvc2 hS2
    rw [compl_len] at h1
    rw [indepB_nat (isSetB_mk hv hS), cliqueB_nat h1, indep_compl g hS]
  have hlt := largestTo_lt (fun S : Nat => indepB rs.length rs S) (2 ^ rs.length) (Nat.two_pow_pos _)
  refine ⟨_, hlt, by unfold largestV; rw [if_pos hv], ?_⟩
  unfold coverOf
  rw [if_pos hv, colSets_len, h2, ← compl_len rs, clqN_of hvc2, compl_len rs, e, compl_len]
  exact Int.toNat_natCast _

end Go.Proofs.YtfkehmpckhmkbaaGreat
