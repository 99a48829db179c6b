/-
  Plain: the readers of cotrees. Mirrors, by fuel, of the program's cotreeReader and of the reference's l17Read.
-/
import Derived.Test.YtjikmjhpmkakoaaGreatDoorPkCardCographs24
import Derived.Test.YtjikmjhpmkakoaaGreatDoorPkCardCographs05
namespace Go.Proofs.YtjikmjhpmkakoaaGreatDoor
open Go.RowKit

/-- The reader of the program: the place, the rows of seven vertices, whether something was wrong. -/
structure RdSt where
  pos : Nat
  rows : List Nat
  bad : Bool
/-- The next byte, 0 at the end. -/
def rdNext (L : List UInt8) (s : RdSt) : UInt8 × RdSt := if s.pos = L.length then (0, { s with bad := true }) else (L.getD s.pos 0, { s with pos := s.pos + 1 })
/-- A part joined with those before. -/
def rdJoin (sign : UInt8) (out part : Nat) (rows : List Nat) : List Nat :=
  if sign = 42 then (List.range rows.length).map fun v => (rows.getD v 0 ||| (if part.testBit v = true then out else 0)) ||| (if out.testBit v = true then part else 0) else rows
/-- 'set' (none) and its loop (the sign, the set so far). -/
def rdI (L : List UInt8) : Nat → Option (UInt8 × Nat) → RdSt → Nat × RdSt
  | 0, _, s => (0, s)
  | f + 1, none, s =>
    let c := (rdNext L s).1
    let s1 := (rdNext L s).2
    if c = 40 then rdI L f (some ((rdNext L s1).1, 0)) (rdNext L s1).2
    else if (s1.bad || !(decide (48 ≤ c.toNat) && decide (c.toNat ≤ 54))) = true then (0, { s1 with bad := true })
    else (2 ^ (c.toNat - 48), s1)
  | f + 1, some (sign, out), s =>
    if s.bad = true then (out, s)
    else
      let c := (rdNext L s).1
      let s1 := (rdNext L s).2
      if c = 32 then
        let r := rdI L f none s1
        rdI L f (some (sign, out ||| r.1)) { r.2 with rows := rdJoin sign out r.1 r.2.rows }
      else (out, s1)

/-- The reader of the reference: the rows, the set, the place behind it; none: it is wrong. -/
def rdS (L : List UInt8) : Nat → Option (Bool × Nat) → List Int → Nat → Option (List Int × Nat × Nat)
  | 0, _, _, _ => none
  | f + 1, none, rs, p =>
    if L.length ≤ p then none
    else if 48 ≤ (L.getD p 0).toNat ∧ (L.getD p 0).toNat ≤ 54 then some (rs, 2 ^ ((L.getD p 0).toNat - 48), p + 1)
    else if L.getD p 0 ≠ 40 ∨ L.length ≤ p + 1 ∨ (L.getD (p + 1) 0 ≠ 43 ∧ L.getD (p + 1) 0 ≠ 42) then none
    else rdS L f (some (decide (L.getD (p + 1) 0 = 42), 0)) rs (p + 2)
  | f + 1, some (join, out), rs, p =>
    if p < L.length ∧ L.getD p 0 = 32 then
      match rdS L f none rs (p + 1) with
      | none => none
      | some (rs2, part, p2) =>
        if part &&& out ≠ 0 then none
        else rdS L f (some (join, out ||| part)) (if join = true then rowsOf rs2.length fun v w => eb rs2 v w || ((out.testBit v && part.testBit w) || (part.testBit v && out.testBit w)) else rs2) p2
    else if p < L.length ∧ L.getD p 0 = 41 then some (rs, out, p + 1)
    else none

/-- The rows with the edges of f within S. -/
def addW (f : List Int) (S : Nat) (rows : List Nat) : List Nat := (List.range rows.length).map fun v => rows.getD v 0 ||| (if S.testBit v = true then gn f v &&& S else 0)
theorem addW_len (f : List Int) (S : Nat) (rows : List Nat) : (addW f S rows).length = rows.length := by simp [addW]
theorem addW_at {f : List Int} {S v : Nat} {rows : List Nat} (hv : v < rows.length) : (addW f S rows).getD v 0 = rows.getD v 0 ||| (if S.testBit v = true then gn f v &&& S else 0) := by simp [addW, hv]
theorem addW_zero (f : List Int) (rows : List Nat) : addW f 0 rows = rows := by
  refine List.ext_getElem (addW_len _ _ _) fun v h1 h2 => ?_
  simp [addW, h2]
theorem rdJoin_len (sign : UInt8) (out part : Nat) (rows : List Nat) : (rdJoin sign out part rows).length = rows.length := by unfold rdJoin; split <;> simp
theorem rows_ext {a b : List Nat} (hl : a.length = b.length) (h : ∀ v, v < a.length → ∀ i, (a.getD v 0).testBit i = (b.getD v 0).testBit i) : a = b := by
  refine List.ext_getElem hl fun v h1 h2 => ?_
  have h3 := Nat.eq_of_testBit_eq (h v h1)
  simpa [h1, h2] using h3
/-- A part behind parts that it is joined to. -/
theorem rdJoin_ser {f : List Int} (g : VG f) {out part : Nat} {rows : List Nat} (_ho : out < 2 ^ f.length) (hp : part < 2 ^ f.length) (hd : ∀ v, out.testBit v = true → part.testBit v = true → False) (ha : ∀ x y, out.testBit x = true → part.testBit y = true → ad f x y = true) :
    rdJoin 42 out part (addW f part (addW f out rows)) = addW f (out ||| part) rows := by
  have hs : ∀ x y, part.testBit x = true → out.testBit y = true → (gn f x).testBit y = true := fun x y h1 h2 => (ad_symm g x y).trans (ha y x h2 h1)
  have hs2 : ∀ x y, out.testBit x = true → part.testBit y = true → (gn f x).testBit y = true := fun x y h1 h2 => ha x y h1 h2
  have _ := hp
  refine rows_ext (by rw [rdJoin_len, addW_len, addW_len, addW_len]) fun v hv i => ?_
  rw [rdJoin_len, addW_len, addW_len] at hv
  have e1 : (rdJoin 42 out part (addW f part (addW f out rows))).getD v 0 = ((addW f part (addW f out rows)).getD v 0 ||| (if part.testBit v = true then out else 0)) ||| (if out.testBit v = true then part else 0) := by
    simp [rdJoin, addW_len, hv]
  rw [e1, addW_at (by rw [addW_len]; exact hv), addW_at hv, addW_at hv]
  simp only [Nat.testBit_or]
  cases h1 : out.testBit v <;> cases h2 : part.testBit v
  · simp [h1, h2]
  · cases h3 : out.testBit i
    · simp [h1, h2, h3, Nat.testBit_and]
    · simp [h1, h2, h3, Nat.testBit_and, hs v i h2 h3]
  · cases h3 : part.testBit i
    · simp [h1, h2, h3, Nat.testBit_and]
    · simp [h1, h2, h3, Nat.testBit_and, hs2 v i h1 h3]
  · exact (hd v h1 h2).elim

theorem rdJoin_plus (out part : Nat) (rows : List Nat) : rdJoin 43 out part rows = rows := by unfold rdJoin; rw [if_neg (by decide)]
/-- A part behind parts that it is not joined to. -/
theorem addW_par {f : List Int} (g : VG f) {out part : Nat} {rows : List Nat} (hd : ∀ v, out.testBit v = true → part.testBit v = true → False) (ha : ∀ x y, out.testBit x = true → part.testBit y = true → ad f x y = false) :
    addW f part (addW f out rows) = addW f (out ||| part) rows := by
  have hs : ∀ x y, part.testBit x = true → out.testBit y = true → (gn f x).testBit y = false := fun x y h1 h2 => (ad_symm g x y).trans (ha y x h2 h1)
  have hs2 : ∀ x y, out.testBit x = true → part.testBit y = true → (gn f x).testBit y = false := fun x y h1 h2 => ha x y h1 h2
  refine rows_ext (by rw [addW_len, addW_len, addW_len]) fun v hv i => ?_
  rw [addW_len, addW_len] at hv
  rw [addW_at (by rw [addW_len]; exact hv), addW_at hv, addW_at hv]
  simp only [Nat.testBit_or]
  cases h1 : out.testBit v <;> cases h2 : part.testBit v
  · simp [h1, h2]
  · cases h3 : out.testBit i
    · simp [h1, h2, h3, Nat.testBit_and]
    · simp [h1, h2, h3, Nat.testBit_and, hs v i h2 h3]
  · cases h3 : part.testBit i
    · simp [h1, h2, h3, Nat.testBit_and]
    · simp [h1, h2, h3, Nat.testBit_and, hs2 v i h1 h3]
  · exact (hd v h1 h2).elim

/-- The parts may be joined one by one. -/
def okP (f : List Int) (sign : UInt8) : Nat → List Nat → Prop
  | _, [] => True
  | out, P :: ps => (∀ rows, rdJoin sign out P (addW f P (addW f out rows)) = addW f (out ||| P) rows) ∧ okP f sign (out ||| P) ps
theorem rdNext_at {L pre post : List UInt8} {c : UInt8} {rows : List Nat} {b : Bool} (hL : L = pre ++ c :: post) : rdNext L ⟨pre.length, rows, b⟩ = (c, ⟨pre.length + 1, rows, b⟩) := by
  subst hL
  unfold rdNext
  rw [if_neg (by simp)]
  simp
/-- The text of a set is read at its place. -/
def ReadsI (f : List Int) (L : List UInt8) (t : Nat → List UInt8) (P : Nat) : Prop := ∀ F pre post rows, (t P).length + 1 ≤ F → L = pre ++ t P ++ post → rdI L F none ⟨pre.length, rows, false⟩ = (P, ⟨pre.length + (t P).length, addW f P rows, false⟩)
theorem rdI_loop {f : List Int} {L : List UInt8} {t : Nat → List UInt8} {sign : UInt8} {post : List UInt8} : ∀ (ps : List Nat) (out F : Nat) (pre : List UInt8) (rows : List Nat), okP f sign out ps → (∀ P ∈ ps, ReadsI f L t P) → (bodyT t ps).length + 2 ≤ F → L = pre ++ bodyT t ps ++ 41 :: post →
    rdI L F (some (sign, out)) ⟨pre.length, addW f out rows, false⟩ = (ps.foldl (· ||| ·) out, ⟨pre.length + (bodyT t ps).length + 1, addW f (ps.foldl (· ||| ·) out) rows, false⟩)
  | [], out, F, pre, rows, _, _, hF, hL => by
    obtain ⟨F, rfl⟩ : ∃ k, F = k + 1 := ⟨F - 1, by omega⟩
    have hn := rdNext_at (rows := addW f out rows) (b := false) (show L = pre ++ 41 :: post by simpa [bodyT] using hL)
    unfold rdI
    simp [hn, bodyT]
  | P :: ps, out, F, pre, rows, ho, hr, hF, hL => by
    have hb : bodyT t (P :: ps) = 32 :: (t P ++ bodyT t ps) := by simp [bodyT]
    rw [hb] at hF hL
    simp only [List.length_cons, List.length_append] at hF
    obtain ⟨F, rfl⟩ : ∃ k, F = k + 1 := ⟨F - 1, by omega⟩
    have hn := rdNext_at (rows := addW f out rows) (b := false) (show L = pre ++ 32 :: (t P ++ bodyT t ps ++ 41 :: post) by rw [hL]; simp)
    have h1 := hr P List.mem_cons_self F (pre ++ [32]) (bodyT t ps ++ 41 :: post) (addW f out rows) (by omega) (by rw [hL]; simp)
    have h2 := rdI_loop (post := post) ps (out ||| P) F (pre ++ 32 :: t P) rows ho.2 (fun Q hQ => hr Q (List.mem_cons_of_mem _ hQ)) (by omega) (by rw [hL]; simp)
    have hl1 : (pre ++ [(32 : UInt8)]).length = pre.length + 1 := by simp
    have hl2 : (pre ++ 32 :: t P).length = pre.length + 1 + (t P).length := by simp; omega
    rw [hl1] at h1
    rw [hl2] at h2
    unfold rdI
    simp only [hn, Bool.false_eq_true, if_false, if_true, h1, ho.1 rows, h2]
    simp [hb]
    omega

theorem okP_ser {f : List Int} (g : VG f) : ∀ (ps : List Nat) (out : Nat), out < 2 ^ f.length → (∀ P ∈ ps, P < 2 ^ f.length) → (∀ P ∈ ps, ∀ a b, out.testBit a = true → P.testBit b = true → a ≠ b ∧ ad f a b = true) → (ps.Pairwise fun A B => ∀ a b, A.testBit a = true → B.testBit b = true → a ≠ b ∧ ad f a b = true) → okP f 42 out ps
  | [], _, _, _, _, _ => trivial
  | P :: ps, out, ho, hl, h1, h2 => by
    rw [List.pairwise_cons] at h2
    refine ⟨fun rows => rdJoin_ser g ho (hl P List.mem_cons_self) (fun v a b => (h1 P List.mem_cons_self v v a b).1 rfl) fun x y a b => (h1 P List.mem_cons_self x y a b).2, okP_ser g ps _ (Nat.or_lt_two_pow ho (hl P List.mem_cons_self)) (fun Q hQ => hl Q (List.mem_cons_of_mem _ hQ)) (fun Q hQ a b ha hb => ?_) h2.2⟩
    rw [Nat.testBit_or, Bool.or_eq_true] at ha
    rcases ha with ha | ha
    · exact h1 Q (List.mem_cons_of_mem _ hQ) a b ha hb
    · exact h2.1 Q hQ a b ha hb
theorem okP_par {f : List Int} (g : VG f) : ∀ (ps : List Nat) (out : Nat), (∀ P ∈ ps, ∀ a b, out.testBit a = true → P.testBit b = true → a ≠ b ∧ ad f a b = false) → (ps.Pairwise fun A B => ∀ a b, A.testBit a = true → B.testBit b = true → a ≠ b ∧ ad f a b = false) → okP f 43 out ps
  | [], _, _, _ => trivial
  | P :: ps, out, h1, h2 => by
    rw [List.pairwise_cons] at h2
    refine ⟨fun rows => (rdJoin_plus _ _ _).trans (addW_par g (fun v a b => (h1 P List.mem_cons_self v v a b).1 rfl) fun x y a b => (h1 P List.mem_cons_self x y a b).2), okP_par g ps _ (fun Q hQ a b ha hb => ?_) h2.2⟩
    rw [Nat.testBit_or, Bool.or_eq_true] at ha
    rcases ha with ha | ha
    · exact h1 Q (List.mem_cons_of_mem _ hQ) a b ha hb
    · exact h2.1 Q hQ a b ha hb
theorem one_fin : ∀ S : Fin 128, (els S.val).length = 1 → S.val = 2 ^ low S.val ∧ low S.val < 7 := by decide +kernel
theorem digR_fin : ∀ v : Fin 7, digB v.val ≠ 40 ∧ (digB v.val).toNat = 48 + v.val := by decide +kernel
theorem addW_one {f : List Int} (g : VG f) {v : Nat} (hv : v < f.length) (rows : List Nat) : addW f (2 ^ v) rows = rows := by
  refine rows_ext (addW_len _ _ _) fun x hx i => ?_
  rw [addW_len] at hx
  rw [addW_at hx, Nat.testBit_or, Nat.testBit_two_pow]
  by_cases e : v = x
  · subst e
    simp only [decide_true, if_true, Nat.testBit_and, Nat.testBit_two_pow]
    by_cases e2 : v = i
    · subst e2
      have := g.irr v hv
      simp [this]
    · simp [e2]
  · simp [e]
/-- A composite text, by its parts. -/
theorem rdI_comp {f : List Int} {L : List UInt8} {t : Nat → List UInt8} {sign : UInt8} {ps : List Nat} {S F : Nat} {pre post : List UInt8} {rows : List Nat} (ho : okP f sign 0 ps) (hr : ∀ P ∈ ps, ReadsI f L t P) (hS : ps.foldl (fun a b => a ||| b) 0 = S) (hF : ([40, sign] ++ bodyT t ps ++ [41]).length + 1 ≤ F) (hL : L = pre ++ ([40, sign] ++ bodyT t ps ++ [41]) ++ post) :
    rdI L F none ⟨pre.length, rows, false⟩ = (S, ⟨pre.length + ([40, sign] ++ bodyT t ps ++ [41]).length, addW f S rows, false⟩) := by
  simp only [List.length_append, List.length_cons, List.length_nil] at hF
  obtain ⟨F, rfl⟩ : ∃ j, F = j + 1 := ⟨F - 1, by omega⟩
  have hn := rdNext_at (rows := rows) (b := false) (show L = pre ++ 40 :: (sign :: bodyT t ps ++ [41] ++ post) by rw [hL]; simp)
  have hn2 := rdNext_at (rows := rows) (b := false) (show L = (pre ++ [40]) ++ sign :: (bodyT t ps ++ [41] ++ post) by rw [hL]; simp)
  have hl := rdI_loop (post := post) ps 0 F (pre ++ [40, sign]) rows ho hr (by omega) (by rw [hL]; simp)
  rw [addW_zero, hS] at hl
  have e1 : (pre ++ [(40 : UInt8)]).length = pre.length + 1 := by simp
  have e2 : (pre ++ [40, sign]).length = pre.length + 2 := by simp
  rw [e1] at hn2
  rw [e2] at hl
  unfold rdI
  simp only [hn, hn2, if_true, hl]
  simp
  omega
theorem rdI_txt {f h : List Int} (c : Co f h) (hp : noP4 f) (L : List UInt8) : ∀ k S, 1 ≤ cnt S → cnt S ≤ k → S < 2 ^ f.length → ReadsI f L (txtF f h k) S
  | 0, S, h1, hk, _ => by omega
  | k + 1, S, h1, hk, hS => by
    have h7 : S < 128 := by have := c.gf.pow.1; omega
    intro F pre post rows hF hL
    by_cases h2 : cnt S = 1
    · obtain ⟨e1, e2⟩ := one_fin ⟨S, h7⟩ h2
      dsimp only at e1 e2
      obtain ⟨d1, d2⟩ := digR_fin ⟨low S, e2⟩
      dsimp only at d1 d2
      rw [txtF_one h2] at hF hL ⊢
      obtain ⟨F, rfl⟩ : ∃ j, F = j + 1 := ⟨F - 1, by omega⟩
      have hn := rdNext_at (rows := rows) (b := false) (show L = pre ++ digB (low S) :: post by rw [hL]; simp)
      have hv : low S < f.length := testBit_lt hS (low_facts h7 (fun e => by rw [e] at h1; exact absurd h1 (by decide))).1
      have hw := addW_one c.gf hv rows
      rw [← e1] at hw
      unfold rdI
      simp only [hn, d1, if_false, d2, Bool.false_or]
      rw [if_neg (by simp; omega), hw]
      simp
      exact e1.symm
    · by_cases h3 : (partsOf f S).length = 1
      · have hSh : S < 2 ^ h.length := by rw [← c.len]; exact hS
        have hps := parts_pts c.gh hSh
        have h4 := (cog_parts c hp hS (by omega)).resolve_left (fun e => e h3)
        have hsub := fun P hP => (hps.each P hP).1
        have hlt : ∀ P ∈ partsOf h S, P < 2 ^ f.length := fun P hP => (hsub P hP).lt hS
        rw [txtF_ser h2 h3] at hF hL ⊢
        have hop : ∀ A B, A < 2 ^ f.length → B < 2 ^ f.length → (∀ a b, A.testBit a = true → B.testBit b = true → a ≠ b ∧ ad h a b = false) → ∀ a b, A.testBit a = true → B.testBit b = true → a ≠ b ∧ ad f a b = true := fun A B hA hB hAB a b ha hb => by
          obtain ⟨n1, n2⟩ := hAB a b ha hb
          have n3 := c.opp a b (testBit_lt hA ha) (testBit_lt hB hb) n1
          rw [n2] at n3
          exact ⟨n1, by simpa using n3.symm⟩
        exact rdI_comp (okP_ser c.gf _ 0 (Nat.two_pow_pos _) hlt (fun P _ a b ha => by simp at ha) (List.Pairwise.imp_of_mem (fun {A B} hA hB hAB => hop A B (hlt A hA) (hlt B hB) hAB) hps.sep))
          (fun P hP => rdI_txt c hp L k P (by have := hps.less h7 h4 hP; omega) (by have := hps.less h7 h4 hP; omega) (hlt P hP)) hps.whole hF hL
      · have hps := parts_pts c.gf hS
        have hlt : ∀ P ∈ partsOf f S, P < 2 ^ f.length := fun P hP => (hps.each P hP).1.lt hS
        rw [txtF_par h2 h3] at hF hL ⊢
        exact rdI_comp (okP_par c.gf _ 0 (fun P _ a b ha => by simp at ha) hps.sep)
          (fun P hP => rdI_txt c hp L k P (by have := hps.less h7 h3 hP; omega) (by have := hps.less h7 h3 hP; omega) (hlt P hP)) hps.whole hF hL

end Go.Proofs.YtjikmjhpmkakoaaGreatDoor
