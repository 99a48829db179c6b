/-
  Plain: the reference's reader of cotrees reads every cotree's text.
  Plain: both readers of cotrees on the text of a cograph.
  Plain: the program's reader of cotrees keeps its rows small and its place within the text. No conditions.
-/
import Derived.Test.YtjikmjhpmkakoaaGreatDoorPkCardCographs27
namespace Go.Proofs.YtjikmjhpmkakoaaGreatDoor
open Go.RowKit

/-- The graph with the edges of f within S. -/
def addG (f : List Int) (S : Nat) (rs : List Int) : List Int := rowsOf rs.length fun v w => eb rs v w || (S.testBit v && S.testBit w && eb f v w)
theorem addG_len (f : List Int) (S : Nat) (rs : List Int) : (addG f S rs).length = rs.length := rowsOf_len _ _
theorem addG_eb {f rs : List Int} {S v w : Nat} (hv : v < rs.length) (hw : w < rs.length) : eb (addG f S rs) v w = (eb rs v w || (S.testBit v && S.testBit w && eb f v w)) := eb_rowsOf hv hw
theorem addG_VG {f rs : List Int} (g : VG f) (gr : VG rs) (hl : rs.length = f.length) (S : Nat) : VG (addG f S rs) :=
  rowsOf_VG gr.pos gr.le (fun i hi => by rw [eb_irr gr hi, eb_irr g (by omega)]; simp) (fun i hi j hj => by rw [eb_sym gr hi hj, eb_sym g (i := i) (j := j) (by omega) (by omega), Bool.and_comm (S.testBit i)])
theorem addG_zero {f rs : List Int} (gr : VG rs) : addG f 0 rs = rs := by
  refine (rows_of gr fun i _ j _ => ?_).symm
  simp
theorem addG_one {f rs : List Int} (g : VG f) (gr : VG rs) (hl : rs.length = f.length) {v : Nat} : addG f (2 ^ v) rs = rs := by
  refine (rows_of gr fun i hi j _ => ?_).symm
  rw [Nat.testBit_two_pow, Nat.testBit_two_pow]
  by_cases e : v = i
  · subst e
    by_cases e2 : v = j
    · subst e2; rw [eb_irr g (by omega)]; simp
    · simp [e2]
  · simp [e]
/-- What the loop makes of a part. -/
def rdJoinS (join : Bool) (out part : Nat) (rs : List Int) : List Int := if join = true then rowsOf rs.length fun v w => eb rs v w || ((out.testBit v && part.testBit w) || (part.testBit v && out.testBit w)) else rs
theorem rdJoinS_ser {f rs : List Int} (g : VG f) (_gr : VG rs) (hl : rs.length = f.length) {out part : Nat} (ha : ∀ x y, out.testBit x = true → part.testBit y = true → x ≠ y ∧ ad f x y = true) : rdJoinS true out part (addG f part (addG f out rs)) = addG f (out ||| part) rs := by
  unfold rdJoinS
  rw [if_pos rfl]
  show _ = rowsOf rs.length _
  rw [addG_len, addG_len]
  refine rowsOf_congr fun v hv w hw => ?_
  rw [addG_eb (by rw [addG_len]; exact hv) (by rw [addG_len]; exact hw), addG_eb hv hw, Nat.testBit_or, Nat.testBit_or]
  have s1 : out.testBit v = true → part.testBit w = true → eb f v w = true := fun a b => (ha v w a b).2
  have s2 : part.testBit v = true → out.testBit w = true → eb f v w = true := fun a b => (eb_sym g (by omega) (by omega)).trans (ha w v b a).2
  cases h1 : out.testBit v <;> cases h2 : part.testBit v <;> cases h3 : out.testBit w <;> cases h4 : part.testBit w <;> simp_all
theorem rdJoinS_par {f rs : List Int} (g : VG f) (_gr : VG rs) (hl : rs.length = f.length) {out part : Nat} (ha : ∀ x y, out.testBit x = true → part.testBit y = true → x ≠ y ∧ ad f x y = false) : rdJoinS false out part (addG f part (addG f out rs)) = addG f (out ||| part) rs := by
  unfold rdJoinS
  rw [if_neg (by decide)]
  show rowsOf _ _ = rowsOf rs.length _
  rw [addG_len]
  refine rowsOf_congr fun v hv w hw => ?_
  rw [addG_eb hv hw, Nat.testBit_or, Nat.testBit_or]
  have s1 : out.testBit v = true → part.testBit w = true → eb f v w = false := fun a b => (ha v w a b).2
  have s2 : part.testBit v = true → out.testBit w = true → eb f v w = false := fun a b => (eb_sym g (by omega) (by omega)).trans (ha w v b a).2
  cases h1 : out.testBit v <;> cases h2 : part.testBit v <;> cases h3 : out.testBit w <;> cases h4 : part.testBit w <;> simp_all

def okS (f : List Int) (join : Bool) : Nat → List Nat → Prop
  | _, [] => True
  | out, P :: ps => (∀ rs, VG rs → rs.length = f.length → rdJoinS join out P (addG f P (addG f out rs)) = addG f (out ||| P) rs) ∧ P &&& out = 0 ∧ okS f join (out ||| P) ps
theorem getD_at {L pre post : List UInt8} {c : UInt8} (hL : L = pre ++ c :: post) : pre.length < L.length ∧ L.getD pre.length 0 = c := by subst hL; simp
def ReadsS (f : List Int) (L : List UInt8) (t : Nat → List UInt8) (P : Nat) : Prop := ∀ F pre post rs, VG rs → rs.length = f.length → (t P).length + 1 ≤ F → L = pre ++ t P ++ post → rdS L F none rs pre.length = some (addG f P rs, P, pre.length + (t P).length)
theorem rdS_loop {f : List Int} (g : VG f) {L : List UInt8} {t : Nat → List UInt8} {join : Bool} {post : List UInt8} : ∀ (ps : List Nat) (out F : Nat) (pre : List UInt8) (rs : List Int), VG rs → rs.length = f.length → okS f join out ps → (∀ P ∈ ps, ReadsS f L t P) → (bodyT t ps).length + 2 ≤ F → L = pre ++ bodyT t ps ++ 41 :: post →
    rdS L F (some (join, out)) (addG f out rs) pre.length = some (addG f (ps.foldl (· ||| ·) out) rs, ps.foldl (· ||| ·) out, pre.length + (bodyT t ps).length + 1)
  | [], out, F, pre, rs, _, _, _, _, hF, hL => by
    obtain ⟨F, rfl⟩ : ∃ k, F = k + 1 := ⟨F - 1, by omega⟩
    obtain ⟨h1, h2⟩ := getD_at (show L = pre ++ 41 :: post by simpa [bodyT] using hL)
    unfold rdS
    rw [if_neg (by rw [h2]; simp), if_pos ⟨h1, h2⟩]
    simp [bodyT]
  | P :: ps, out, F, pre, rs, gr, hl, ho, hr, hF, hL => by
    have hb : bodyT t (P :: ps) = 32 :: (t P ++ bodyT t ps) := by simp [bodyT]
    rw [hb] at hF hL
    simp only [List.length_cons, List.length_append] at hF
    obtain ⟨F, rfl⟩ : ∃ k, F = k + 1 := ⟨F - 1, by omega⟩
    obtain ⟨h1, h2⟩ := getD_at (show L = pre ++ 32 :: (t P ++ bodyT t ps ++ 41 :: post) by rw [hL]; simp)
    have h3 := hr P List.mem_cons_self F (pre ++ [32]) (bodyT t ps ++ 41 :: post) (addG f out rs) (addG_VG g gr hl out) (by rw [addG_len]; exact hl) (by omega) (by rw [hL]; simp)
    have h4 := rdS_loop g (post := post) ps (out ||| P) F (pre ++ 32 :: t P) rs gr hl ho.2.2 (fun Q hQ => hr Q (List.mem_cons_of_mem _ hQ)) (by omega) (by rw [hL]; simp)
    have hl1 : (pre ++ [(32 : UInt8)]).length = pre.length + 1 := by simp
    have hl2 : (pre ++ 32 :: t P).length = pre.length + 1 + (t P).length := by simp; omega
    rw [hl1] at h3
    rw [hl2] at h4
    have h5 := ho.1 rs gr hl
    unfold rdJoinS at h5
    unfold rdS
    rw [if_pos ⟨h1, h2⟩]
    simp only [h3]
    rw [if_neg (by simpa using ho.2.1), h5, h4]
    simp [hb]
    omega

theorem and_none {A B : Nat} (h : ∀ v, A.testBit v = true → B.testBit v = true → False) : B &&& A = 0 := by
  apply Nat.eq_of_testBit_eq
  intro v
  rw [Nat.testBit_and, Nat.zero_testBit]
  cases h1 : A.testBit v <;> cases h2 : B.testBit v <;> simp
  exact h v h1 h2
theorem okS_of {f : List Int} (g : VG f) (join : Bool) : ∀ (ps : List Nat) (out : Nat), (∀ P ∈ ps, ∀ a b, out.testBit a = true → P.testBit b = true → a ≠ b ∧ ad f a b = join) → (ps.Pairwise fun A B => ∀ a b, A.testBit a = true → B.testBit b = true → a ≠ b ∧ ad f a b = join) → okS f join out ps
  | [], _, _, _ => trivial
  | P :: ps, out, h1, h2 => by
    rw [List.pairwise_cons] at h2
    refine ⟨fun rs gr hl => ?_, and_none fun v a b => (h1 P List.mem_cons_self v v a b).1 rfl, okS_of g join ps _ (fun Q hQ a b ha hb => ?_) h2.2⟩
    · cases join
      · exact rdJoinS_par g gr hl (h1 P List.mem_cons_self)
      · exact rdJoinS_ser g gr hl (h1 P List.mem_cons_self)
    · rw [Nat.testBit_or, Bool.or_eq_true] at ha
      rcases ha with ha | ha
      · exact h1 Q (List.mem_cons_of_mem _ hQ) a b ha hb
      · exact h2.1 Q hQ a b ha hb
theorem rdS_comp {f : List Int} (g : VG f) {L : List UInt8} {t : Nat → List UInt8} {sign : UInt8} {ps : List Nat} {S F : Nat} {pre post : List UInt8} {rs : List Int} (gr : VG rs) (hl : rs.length = f.length) (hs : sign = 42 ∨ sign = 43) (ho : okS f (decide (sign = 42)) 0 ps) (hr : ∀ P ∈ ps, ReadsS f L t P) (hS : ps.foldl (fun a b => a ||| b) 0 = S) (hF : ([40, sign] ++ bodyT t ps ++ [41]).length + 1 ≤ F) (hL : L = pre ++ ([40, sign] ++ bodyT t ps ++ [41]) ++ post) :
    rdS L F none rs pre.length = some (addG f S rs, S, pre.length + ([40, sign] ++ bodyT t ps ++ [41]).length) := by
  simp only [List.length_append, List.length_cons, List.length_nil] at hF
  obtain ⟨F, rfl⟩ : ∃ j, F = j + 1 := ⟨F - 1, by omega⟩
  obtain ⟨a1, a2⟩ := getD_at (show L = pre ++ 40 :: (sign :: bodyT t ps ++ [41] ++ post) by rw [hL]; simp)
  obtain ⟨b1, b2⟩ := getD_at (show L = (pre ++ [40]) ++ sign :: (bodyT t ps ++ [41] ++ post) by rw [hL]; simp)
  have hlp := rdS_loop g (post := post) ps 0 F (pre ++ [40, sign]) rs gr hl ho hr (by omega) (by rw [hL]; simp)
  rw [addG_zero gr, hS] at hlp
  have e1 : (pre ++ [(40 : UInt8)]).length = pre.length + 1 := by simp
  have e2 : (pre ++ [40, sign]).length = pre.length + 2 := by simp
  rw [e1] at b1 b2
  rw [e2] at hlp
  unfold rdS
  rw [if_neg (by omega), if_neg (by rw [a2]; decide), if_neg (by rw [a2, b2]; rcases hs with rfl | rfl <;> simp <;> omega), b2, hlp]
  simp
  omega
theorem rdS_txt {f h : List Int} (c : Co f h) (hp : noP4 f) (L : List UInt8) : ∀ k S, 1 ≤ cnt S → cnt S ≤ k → S < 2 ^ f.length → ReadsS f L (txtF f h k) S
  | 0, S, h1, hk, _ => by omega
  | k + 1, S, h1, hk, hS => by
    have h7 : S < 128 := by have := c.gf.pow.1; omega
    intro F pre post rs gr hl hF hL
    by_cases h2 : cnt S = 1
    · obtain ⟨e1, e2⟩ := one_fin ⟨S, h7⟩ h2
      dsimp only at e1 e2
      obtain ⟨d1, d2⟩ := digR_fin ⟨low S, e2⟩
      dsimp only at d1 d2
      rw [txtF_one h2] at hF hL ⊢
      obtain ⟨F, rfl⟩ : ∃ j, F = j + 1 := ⟨F - 1, by omega⟩
      obtain ⟨a1, a2⟩ := getD_at (show L = pre ++ digB (low S) :: post by rw [hL]; simp)
      have hw := addG_one c.gf gr hl (v := low S)
      rw [← e1] at hw
      unfold rdS
      rw [if_neg (by omega), if_pos (by rw [a2, d2]; omega), a2, d2, hw]
      simp
      exact e1.symm
    · by_cases h3 : (partsOf f S).length = 1
      · have hSh : S < 2 ^ h.length := by rw [← c.len]; exact hS
        have hps := parts_pts c.gh hSh
        have h4 := (cog_parts c hp hS (by omega)).resolve_left (fun e => e h3)
        have hlt : ∀ P ∈ partsOf h S, P < 2 ^ f.length := fun P hP => ((hps.each P hP).1).lt hS
        rw [txtF_ser h2 h3] at hF hL ⊢
        have hop : ∀ A B, A < 2 ^ f.length → B < 2 ^ f.length → (∀ a b, A.testBit a = true → B.testBit b = true → a ≠ b ∧ ad h a b = false) → ∀ a b, A.testBit a = true → B.testBit b = true → a ≠ b ∧ ad f a b = true := fun A B hA hB hAB a b ha hb => by
          obtain ⟨n1, n2⟩ := hAB a b ha hb
          have n3 := c.opp a b (testBit_lt hA ha) (testBit_lt hB hb) n1
          rw [n2] at n3
          exact ⟨n1, by simpa using n3.symm⟩
        exact rdS_comp c.gf gr hl (.inl rfl) (okS_of c.gf true _ 0 (fun P _ a b ha => by simp at ha) (List.Pairwise.imp_of_mem (fun {A B} hA hB hAB => hop A B (hlt A hA) (hlt B hB) hAB) hps.sep))
          (fun P hP => rdS_txt c hp L k P (by have := hps.less h7 h4 hP; omega) (by have := hps.less h7 h4 hP; omega) (hlt P hP)) hps.whole hF hL
      · have hps := parts_pts c.gf hS
        have hlt : ∀ P ∈ partsOf f S, P < 2 ^ f.length := fun P hP => (hps.each P hP).1.lt hS
        rw [txtF_par h2 h3] at hF hL ⊢
        exact rdS_comp c.gf gr hl (.inr rfl) (okS_of c.gf false _ 0 (fun P _ a b ha => by simp at ha) hps.sep)
          (fun P hP => rdS_txt c hp L k P (by have := hps.less h7 h3 hP; omega) (by have := hps.less h7 h3 hP; omega) (hlt P hP)) hps.whole hF hL

end Go.Proofs.YtjikmjhpmkakoaaGreatDoor

namespace Go.Proofs.YtjikmjhpmkakoaaGreatDoor
open Go.RowKit

/-- The graph without edges on n vertices. -/
def zerosG (n : Nat) : List Int := List.replicate n 0
theorem zerosG_eb {n v w : Nat} : eb (zerosG n) v w = false := by
  unfold eb gn gi zerosG
  have : (List.replicate n (0 : Int))[v]?.getD 0 = 0 := by
    rw [List.getElem?_replicate]; split <;> rfl
  simp [this]
theorem zerosG_VG {n : Nat} (h1 : 1 ≤ n) (h7 : n ≤ 7) : VG (zerosG n) := by
  have e : zerosG n = rowsOf n fun _ _ => false := by
    refine gi_ext (by simp [zerosG, rowsOf_len]) fun i hi => ?_
    have hi : i < n := by simpa [zerosG] using hi
    rw [rowsOf_at hi]
    have h0 : ∀ k, accB (fun _ => false) k = 0 := fun k => by
      apply Nat.eq_of_testBit_eq
      intro j
      rw [accB_bit]; simp
    rw [h0]
    simp [zerosG, gi, hi]
  rw [e]
  exact rowsOf_VG h1 h7 (fun _ _ => rfl) fun _ _ _ _ => rfl
theorem addG_full {f : List Int} (g : VG f) : addG f (2 ^ f.length - 1) (zerosG f.length) = f := by
  unfold addG
  have hl : (zerosG f.length).length = f.length := by simp [zerosG]
  rw [hl]
  refine Eq.trans ?_ (rows_eb g)
  refine rowsOf_congr fun i hi j hj => ?_
  rw [zerosG_eb, Nat.testBit_two_pow_sub_one, Nat.testBit_two_pow_sub_one]
  simp [hi, hj]
theorem cot_read {f : List Int} (hv : isGraphB f.length f = true) (hp : noP4 f) {F : Nat} (hF : (ctV f).length + 1 ≤ F) :
    rdI (ctV f) F none ⟨0, List.replicate 7 0, false⟩ = (2 ^ f.length - 1, ⟨(ctV f).length, addW f (2 ^ f.length - 1) (List.replicate 7 0), false⟩) ∧
    rdS (ctV f) F none (zerosG f.length) 0 = some (f, 2 ^ f.length - 1, (ctV f).length) := by
  have g := (VG.of hv).2
  have hc := cnt_all g
  have hS : 2 ^ f.length - 1 < 2 ^ f.length := by have := g.pow.2; omega
  have h1 := rdI_txt (Co.compl g) hp (ctV f) 7 (2 ^ f.length - 1) hc.1 hc.2 hS F [] [] (List.replicate 7 0) hF (by simp [ctV])
  have h2 := rdS_txt (Co.compl g) hp (ctV f) 7 (2 ^ f.length - 1) hc.1 hc.2 hS F [] [] (zerosG f.length) (zerosG_VG g.pos g.le) (by simp [zerosG]) hF (by simp [ctV])
  rw [addG_full g] at h2
  refine ⟨?_, ?_⟩
  · refine h1.trans ?_
    simp [ctV]
  · refine h2.trans ?_
    simp [ctV]
/-- The first rows are the graph's. -/
theorem addW_full {f : List Int} (g : VG f) : ((addW f (2 ^ f.length - 1) (List.replicate 7 0)).take f.length).map Int.ofNat = f := by
  have h7 := g.le
  refine gi_ext (by simp [addW_len]; omega) fun v hv => ?_
  have hv : v < f.length := by simp [addW_len] at hv; omega
  have e1 : (addW f (2 ^ f.length - 1) (List.replicate 7 0)).getD v 0 = gn f v := by
    rw [addW_at (by simp; omega), Nat.testBit_two_pow_sub_one]
    have e2 : (List.replicate 7 0).getD v 0 = 0 := by rw [List.getD_eq_getElem?_getD, List.getElem?_replicate]; split <;> rfl
    rw [e2]
    apply Nat.eq_of_testBit_eq
    intro j
    simp only [decide_eq_true hv, if_true, Nat.zero_or, Nat.testBit_and, Nat.testBit_two_pow_sub_one]
    by_cases hj : j < f.length
    · simp [hj]
    · simp only [decide_eq_false hj, Bool.and_false]
      exact (testBit_ge (g.lt v hv) (by omega)).symm
  rw [g.row v hv, ← e1]
  have hl : v < (addW f (2 ^ f.length - 1) (List.replicate 7 0)).length := by rw [addW_len]; simp; omega
  generalize addW f (2 ^ f.length - 1) (List.replicate 7 0) = R at *
  have hvf : v < f.length := by assumption
  rw [List.map_take]
  simp [gi, hvf, hl]

/-- The digits of a text. -/
def digN (l : List UInt8) : Nat := l.countP fun c => decide (48 ≤ c.toNat) && decide (c.toNat ≤ 54)
theorem body_dig {rs : List Int} {t : Nat → List UInt8} {S : Nat} {ps : List Nat} (hP : Pts rs S ps) (h7 : S < 128) (ht : ∀ P ∈ ps, digN (t P) = cnt P) : ∀ i, i ≤ ps.length → digN (bodyT t (ps.take i)) = cnt (orLs (ps.take i))
  | 0, _ => by simp [bodyT, digN, orLs]; decide
  | i + 1, hi => by
    have ih := body_dig hP h7 ht i (by omega)
    have h1 : i < ps.length := by omega
    have h2 := ht _ (eln_mem h1)
    have hsub := hP.sub i
    rw [bodyT_take h1, orLs_take h1, cnt_dis (hsub.lt h7) ((hP.at h1).1.lt h7) fun v hv => bfalse fun e => (hP.pre h1 v v hv e).1 rfl, ← ih, ← h2]
    unfold digN
    rw [List.countP_append, List.countP_cons]
    simp
theorem digD_fin : ∀ v : Fin 7, digN [digB v.val] = 1 := by decide +kernel
theorem txt_dig {f h : List Int} (c : Co f h) (hp : noP4 f) : ∀ k S, S < 2 ^ f.length → 1 ≤ cnt S → cnt S ≤ k → digN (txtF f h k S) = cnt S
  | 0, _, _, _, _ => by omega
  | k + 1, S, hS, h0, hk => by
    have h7 : S < 128 := by have := c.gf.pow.1; omega
    by_cases h1 : cnt S = 1
    · rw [txtF_one h1, h1]
      exact digD_fin ⟨low S, (one_fin ⟨S, h7⟩ h1).2⟩
    · have key : ∀ {rs ps}, Pts rs S ps → ps.length ≠ 1 → digN (bodyT (txtF f h k) ps) = cnt S := fun {rs ps} hP hn => by
        have := body_dig (t := txtF f h k) hP h7 (fun P hP' => by
          obtain ⟨l1, l2⟩ := hP.less h7 hn hP'
          exact txt_dig c hp k P ((hP.each P hP').1.lt hS) (by omega) (by omega)) ps.length (Nat.le_refl _)
        rwa [List.take_length, hP.whole] at this
      have wrap : ∀ (a : UInt8) (l : List UInt8), (a = 42 ∨ a = 43) → digN ([40, a] ++ l ++ [41]) = digN l := fun a l ha => by
        rcases ha with rfl | rfl <;> simp [digN, List.countP_append, List.countP_cons]
      by_cases h2 : (partsOf f S).length = 1
      · have h3 := (cog_parts c hp hS (by omega)).resolve_left fun h => h h2
        have := key (parts_pts c.gh (by rw [← c.len]; exact hS)) h3
        rw [txtF_ser h1 h2, wrap _ _ (.inl rfl), this]
      · have := key (parts_pts c.gf hS) h2
        rw [txtF_par h1 h2, wrap _ _ (.inr rfl), this]
theorem ctV_dig {f : List Int} (hv : isGraphB f.length f = true) (hp : noP4 f) : digN (ctV f) = cnt (2 ^ f.length - 1) := by
  have g := (VG.of hv).2
  have hc := cnt_all g
  exact txt_dig (Co.compl g) hp 7 _ (by have := g.pow.2; omega) hc.1 hc.2

end Go.Proofs.YtjikmjhpmkakoaaGreatDoor

namespace Go.Proofs.YtjikmjhpmkakoaaGreatDoor
open Go.RowKit

/-- Seven rows below 2^7, a place within the text. -/
structure RdOk (L : List UInt8) (s : RdSt) : Prop where
  pos : s.pos ≤ L.length
  len : s.rows.length = 7
  lt : ∀ v, s.rows.getD v 0 < 128
theorem rdNext_ok {L : List UInt8} {s : RdSt} (h : RdOk L s) : RdOk L (rdNext L s).2 ∧ s.pos ≤ (rdNext L s).2.pos ∧ (rdNext L s).2.pos ≤ s.pos + 1 := by
  unfold rdNext
  split
  · exact ⟨⟨h.pos, h.len, h.lt⟩, by simp, by simp⟩
  · have := h.pos
    exact ⟨⟨by dsimp only; omega, h.len, h.lt⟩, by simp, by simp⟩
theorem rdNext_adv {L : List UInt8} {s : RdSt} (h : (rdNext L s).1 ≠ 0) : s.pos < (rdNext L s).2.pos := by
  unfold rdNext at h ⊢
  split
  · rename_i e; rw [if_pos e] at h; exact absurd rfl h
  · simp
theorem or_128 {a b : Nat} (ha : a < 128) (hb : b < 128) : a ||| b < 128 := Nat.or_lt_two_pow (n := 7) ha hb
theorem if_128 {c : Prop} [Decidable c] {a b : Nat} (ha : a < 128) (hb : b < 128) : (if c then a else b) < 128 := by split <;> assumption
theorem rdJoin_lt {sign : UInt8} {out part : Nat} {rows : List Nat} (h : ∀ v, rows.getD v 0 < 128) (ho : out < 128) (hp : part < 128) (v : Nat) : (rdJoin sign out part rows).getD v 0 < 128 := by
  unfold rdJoin
  split
  · by_cases hv : v < rows.length
    · simp only [List.getD_eq_getElem?_getD, List.getElem?_map, List.getElem?_range hv, Option.map_some, Option.getD_some]
      have := h v
      rw [List.getD_eq_getElem?_getD] at this
      exact or_128 (or_128 this (if_128 ho (by decide))) (if_128 hp (by decide))
    · simp [hv]
  · exact h v
theorem rdI_ok (L : List UInt8) : ∀ (F : Nat) (t : Option (UInt8 × Nat)) (s : RdSt), RdOk L s → (∀ x, t = some x → x.2 < 128) → (rdI L F t s).1 < 128 ∧ RdOk L (rdI L F t s).2 ∧ s.pos ≤ (rdI L F t s).2.pos
  | 0, t, s, h, _ => by
    unfold rdI
    exact ⟨by simp, h, Nat.le_refl _⟩
  | F + 1, none, s, h, _ => by
    obtain ⟨h1, l1, -⟩ := rdNext_ok h
    unfold rdI
    dsimp only
    split
    · obtain ⟨h2, l2, -⟩ := rdNext_ok h1
      obtain ⟨a, b, c⟩ := rdI_ok L F (some ((rdNext L (rdNext L s).2).1, 0)) _ h2 (fun x e => by cases e; simp)
      exact ⟨a, b, by omega⟩
    · split
      · exact ⟨by simp, ⟨h1.pos, h1.len, h1.lt⟩, l1⟩
      · rename_i e
        simp only [Bool.or_eq_true, Bool.not_eq_true', Bool.and_eq_false_iff, decide_eq_false_iff_not, not_or, Bool.not_eq_true, Decidable.not_not] at e
        refine ⟨?_, h1, l1⟩
        have : 2 ^ ((rdNext L s).1.toNat - 48) ≤ 2 ^ 6 := Nat.pow_le_pow_right (by decide) (by omega)
        dsimp only
        omega
  | F + 1, some (sign, out), s, h, ho => by
    obtain ⟨h1, l1, -⟩ := rdNext_ok h
    have ho := ho _ rfl
    dsimp only at ho
    unfold rdI
    split
    · exact ⟨ho, h, Nat.le_refl _⟩
    · dsimp only
      split
      · obtain ⟨a, b, c⟩ := rdI_ok L F none _ h1 (fun x e => by cases e)
        obtain ⟨a2, b2, c2⟩ := rdI_ok L F (some (sign, out ||| (rdI L F none (rdNext L s).2).1)) { (rdI L F none (rdNext L s).2).2 with rows := rdJoin sign out (rdI L F none (rdNext L s).2).1 (rdI L F none (rdNext L s).2).2.rows } ⟨b.pos, by dsimp only; rw [rdJoin_len]; exact b.len, fun v => rdJoin_lt b.lt ho a v⟩ (fun x e => by cases e; exact or_128 ho a)
        exact ⟨a2, b2, by dsimp only at c2; omega⟩
      · exact ⟨ho, h1, l1⟩

/-- The rows when the vertices below k have been joined. -/
def joinTo (sign : UInt8) (out part k : Nat) (rows : List Nat) : List Nat := (List.range rows.length).map fun v => if v < k then (rdJoin sign out part rows).getD v 0 else rows.getD v 0
theorem joinTo_len (sign : UInt8) (out part k : Nat) (rows : List Nat) : (joinTo sign out part k rows).length = rows.length := by simp [joinTo]
theorem joinTo_zero (sign : UInt8) (out part : Nat) (rows : List Nat) : joinTo sign out part 0 rows = rows := by
  refine List.ext_getElem (joinTo_len _ _ _ _ _) fun v h1 h2 => ?_
  simp [joinTo, h2]
theorem joinTo_full (sign : UInt8) (out part : Nat) {rows : List Nat} (h : rows.length = 7) : joinTo sign out part 7 rows = rdJoin sign out part rows := by
  refine List.ext_getElem (by rw [joinTo_len, rdJoin_len]) fun v h1 h2 => ?_
  have hv : v < rows.length := by rw [joinTo_len] at h1; exact h1
  have h3 : v < 7 := by omega
  simp [joinTo, h3, h2]
theorem joinTo_at (sign : UInt8) (out part k : Nat) {rows : List Nat} (hk : k < rows.length) : (joinTo sign out part k rows).getD k 0 = rows.getD k 0 := by simp [joinTo, hk]
theorem joinTo_set (sign : UInt8) (out part k : Nat) {rows : List Nat} (hk : k < rows.length) : (joinTo sign out part k rows).set k ((rdJoin sign out part rows).getD k 0) = joinTo sign out part (k + 1) rows := by
  refine List.ext_getElem (by rw [List.length_set, joinTo_len, joinTo_len]) fun v h1 h2 => ?_
  have hv : v < rows.length := by rw [joinTo_len] at h2; exact h2
  rw [List.getElem_set]
  by_cases e : k = v
  · subst e; simp [joinTo]
  · rw [if_neg e]
    simp only [joinTo, List.getElem_map, List.getElem_range]
    by_cases e2 : v < k
    · rw [if_pos e2, if_pos (by omega)]
    · rw [if_neg e2, if_neg (by omega)]
theorem rdJoin_at (out part v : Nat) {rows : List Nat} (hv : v < rows.length) : (rdJoin 42 out part rows).getD v 0 = (rows.getD v 0 ||| (if part.testBit v = true then out else 0)) ||| (if out.testBit v = true then part else 0) := by
  unfold rdJoin
  rw [if_pos rfl]
  simp [hv]
theorem rdJoin_not {sign : UInt8} (out part : Nat) (rows : List Nat) (h : sign ≠ 42) : rdJoin sign out part rows = rows := by unfold rdJoin; rw [if_neg h]

theorem joinTo_not {sign : UInt8} (out part k : Nat) (rows : List Nat) (h : sign ≠ 42) : joinTo sign out part k rows = rows := by
  refine List.ext_getElem (joinTo_len _ _ _ _ _) fun v h1 h2 => ?_
  simp [joinTo, rdJoin_not out part rows h, h2]
theorem joinTo_step {out part k : Nat} {rows : List Nat} (hk : k < rows.length) {A B : Bool} (hA : part.testBit k = A) (hB : out.testBit k = B) :
    joinTo 42 out part (k + 1) rows = (joinTo 42 out part k rows).set k ((rows.getD k 0 ||| (if A = true then out else 0)) ||| (if B = true then part else 0)) := by
  rw [← joinTo_set 42 out part k hk, rdJoin_at out part k hk, hA, hB]
theorem joinTo_keep {out part k : Nat} {rows : List Nat} (hk : k < rows.length) : (joinTo 42 out part k rows).set k (rows.getD k 0) = joinTo 42 out part k rows := by
  have h := joinTo_at 42 out part k hk
  rw [← h]
  refine List.ext_getElem (by rw [List.length_set]) fun v h1 h2 => ?_
  rw [List.getElem_set]
  split
  · rename_i e; subst e; simp [h2]
  · rfl

/-! ### The mirror, step by step -/
theorem rdI_open {L : List UInt8} {F : Nat} {s : RdSt} (h : (rdNext L s).1 = 40) : rdI L (F + 1) none s = rdI L F (some ((rdNext L (rdNext L s).2).1, 0)) (rdNext L (rdNext L s).2).2 := by
  rw [rdI]; simp only [h, if_true]
theorem rdI_wrong {L : List UInt8} {F : Nat} {s : RdSt} (h : (rdNext L s).1 ≠ 40) (h2 : (rdNext L s).2.bad = true ∨ ¬(48 ≤ (rdNext L s).1.toNat ∧ (rdNext L s).1.toNat ≤ 54)) : rdI L (F + 1) none s = (0, { (rdNext L s).2 with bad := true }) := by
  rw [rdI]
  simp only [h, if_false]
  rw [if_pos]
  rw [Bool.or_eq_true]
  rcases h2 with h2 | h2
  · exact .inl h2
  · right
    simp only [Bool.not_eq_true', Bool.and_eq_false_iff, decide_eq_false_iff_not]
    omega
theorem rdI_digit {L : List UInt8} {F : Nat} {s : RdSt} (h : (rdNext L s).1 ≠ 40) (h2 : (rdNext L s).2.bad = false) (h3 : 48 ≤ (rdNext L s).1.toNat) (h4 : (rdNext L s).1.toNat ≤ 54) : rdI L (F + 1) none s = (2 ^ ((rdNext L s).1.toNat - 48), (rdNext L s).2) := by
  rw [rdI]
  simp only [h, if_false]
  rw [if_neg]
  rw [h2, decide_eq_true h3, decide_eq_true h4]
  decide
theorem rdI_bad {L : List UInt8} {F out : Nat} {sg : UInt8} {s : RdSt} (h : s.bad = true) : rdI L (F + 1) (some (sg, out)) s = (out, s) := by
  rw [rdI]; rw [if_pos h]
theorem rdI_stop {L : List UInt8} {F out : Nat} {sg : UInt8} {s : RdSt} (h : s.bad = false) (h2 : (rdNext L s).1 ≠ 32) : rdI L (F + 1) (some (sg, out)) s = (out, (rdNext L s).2) := by
  rw [rdI]; rw [if_neg (by rw [h]; decide)]; simp only [h2, if_false]
theorem rdI_go {L : List UInt8} {F out : Nat} {sg : UInt8} {s : RdSt} (h : s.bad = false) (h2 : (rdNext L s).1 = 32) :
    rdI L (F + 1) (some (sg, out)) s = rdI L F (some (sg, out ||| (rdI L F none (rdNext L s).2).1)) { (rdI L F none (rdNext L s).2).2 with rows := rdJoin sg out (rdI L F none (rdNext L s).2).1 (rdI L F none (rdNext L s).2).2.rows } := by
  rw [rdI]; rw [if_neg (by rw [h]; decide)]; simp only [h2, if_true]

end Go.Proofs.YtjikmjhpmkakoaaGreatDoor
