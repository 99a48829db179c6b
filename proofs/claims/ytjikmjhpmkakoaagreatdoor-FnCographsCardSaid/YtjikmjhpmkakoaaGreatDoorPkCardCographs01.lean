/-
  Words and laws on worlds that the walks of this seat share: a world that has grown from another, slices that read as lists of integers, boxes of structs. No conditions.
  Worlds that have grown from another one in which some blocks may be written: what stays as it was. No conditions.
  The walks of the small functions on numbers: within, l1In, has. No conditions but that the count of a shift is not negative.
  The walks of the laws' own helpers on lists of integers: szIntS, toIntS, eqIntS. The lists have at most 2^20 elements where a copy is made.
-/
import Derived.Test.YtjikmjhpmkakoaaGreatDoorRows
import Derived.WalkKit
import Derived.WalkSpells
import Derived.WalkLawsBesides
import Derived.Lib.Hide
import Derived.BigQuiet
namespace Go.Proofs.YtjikmjhpmkakoaaGreatDoor
open Go.RowKit

/-- A world that has grown from W: every block of W is there as it was. -/
structure Later (W : World) where
  w : World
  below : Below W.heap.size W w

@[go_sem] theorem Later.cell {W : World} (m : Later W) (b o : Nat) (h : b < W.heap.size) : m.w.cell? ⟨b, o, none⟩ = W.cell? ⟨b, o, none⟩ :=
  m.below.cell (p := ⟨b, o, none⟩) h
@[go_sem] theorem Later.frozen {W : World} (m : Later W) (b o : Nat) (h : b < W.heap.size) : m.w.frozen? ⟨b, o, none⟩ = W.frozen? ⟨b, o, none⟩ :=
  m.below.frozen (p := ⟨b, o, none⟩) h

def Later.refl (W : World) : Later W := ⟨W, Below.refl _ _⟩
instance (W : World) : Nonempty (Later W) := ⟨Later.refl W⟩
def Later.on {W : World} (m : Later W) {w' : World} (h : Below m.w.heap.size m.w w') : Later W := ⟨w', m.below.trans (h.mono m.below.size)⟩
theorem Later.size {W : World} (m : Later W) : W.heap.size ≤ m.w.heap.size := m.below.size
/-- What began below W and came to a world that has grown from W. -/
theorem below_later {w W : World} (h : Below w.heap.size w W) (m : Later W) : Below w.heap.size w m.w := h.trans (m.below.mono h.size)

theorem below_more {W w w' : World} (h : Below W.heap.size W w) (h' : Below w.heap.size w w') : Below W.heap.size W w' := h.trans (h'.mono h.size)
theorem below_more' {v W w : World} (h : Below v.heap.size v W) (h' : Below W.heap.size W w) : Below v.heap.size v w := h.trans (h'.mono h.size)

theorem Calls.later {W : World} {P : Program} {f : FuncId} {args : Array Value} {v : Value} (m : Later W)
    (h : Calls P f args m.w fun e w' => e = .returned v ∧ Below m.w.heap.size m.w w') :
    Calls P f args m.w fun e w'' => e = .returned v ∧ ∃ m' : Later W, w'' = m'.w :=
  h.mono fun _ _ ⟨he, hb⟩ => ⟨he, m.on hb, rfl⟩
theorem Calls.later_same {W : World} {P : Program} {f : FuncId} {args : Array Value} {v : Value} (m : Later W)
    (h : Calls P f args m.w fun e w' => e = .returned v ∧ m.w = w') :
    Calls P f args m.w fun e w'' => e = .returned v ∧ ∃ m' : Later W, w'' = m'.w :=
  h.mono fun _ _ ⟨he, hb⟩ => ⟨he, m, hb.symm⟩

/-- A drawn region that only reads, in any world that has grown from W. -/
theorem wp_region_later {P : Program} {id : Nat} {Q : Exit → Act → World → Prop} {a : Act} {W w : World} {l : List Oper} (m : Later W) (hm : m.w = w) (hP : P.follows .mixedOrders = true) (hB : Region.lexB .any l.toArray = true)
    (h : wpQuiet P l.toArray (fun w' => ∃ m : Later W, w' = m.w) (fun a' => ∀ w', (∃ m : Later W, w' = m.w) → Q .normal a' w') l a) : (Code.region id l.toArray true).wp P Q a w :=
  wp_region_quiet (C := fun w' => ∃ m : Later W, w' = m.w) hP hB ⟨⟨_, m.below.drew⟩, by rw [← hm]; rfl⟩ (by simpa using h)

/-- What holds below k and at k holds below k + 1. -/
theorem all_succ {p : Nat → Prop} {k : Nat} (h : ∀ j, j < k → p j) (hk : p k) : ∀ j, j < k + 1 → p j := fun j hj => by
  rcases Nat.lt_succ_iff_lt_or_eq.1 hj with hj | rfl
  · exact h j hj
  · exact hk

/-- Element k of a list of integers (no rule of simp looks into it). -/
def gi (xs : List Int) (k : Nat) : Int := xs.getD k 0

/-- The slice address ao reads as the integers xs. -/
def IntsAt (w : World) (ao : Option Addr) (xs : List Int) : Prop :=
  0 < xs.length → ∃ b off, ao = some ⟨b, off, none⟩ ∧ b < w.heap.size ∧ ∀ k, k < xs.length → w.cell? ⟨b, off + k, none⟩ = some (.int .i64 (gi xs k))

theorem IntsAt.below {w w' : World} {ao : Option Addr} {xs : List Int} (h : IntsAt w ao xs) (hb : Below w.heap.size w w') : IntsAt w' ao xs := fun h0 => by
  obtain ⟨b, off, rfl, hlt, hc⟩ := h h0
  exact ⟨b, off, rfl, Nat.lt_of_lt_of_le hlt hb.size, fun k hk => by rw [hb.cell (p := ⟨b, off + k, none⟩) hlt]; exact hc k hk⟩
theorem IntsAt.later {W : World} {ao : Option Addr} {xs : List Int} (h : IntsAt W ao xs) (m : Later W) : IntsAt m.w ao xs := h.below m.below

theorem retB {a b : Bool} (h : a = b) : Ending.returned (.bool a) = .returned (.bool b) := by rw [h]
theorem retI {a b : Int} (h : a = b) : Ending.returned (.int .i64 a) = .returned (.int .i64 b) := by rw [h]

/-- Block b of the world holds these cells and no others, nothing frozen. -/
def Blk (w : World) (b : Nat) (cs : Array Value) (T : TypeId) : Prop := w.heap[b]? = some (.cells cs T (0, 0))
theorem Blk.cell {w : World} {b : Nat} {cs : Array Value} {T : TypeId} (h : Blk w b cs T) (i : Nat) : w.cell? ⟨b, i, none⟩ = cs[i]? := by
  unfold Blk at h; simp only [World.cell?, h]; rfl
theorem Blk.frozen {w : World} {b : Nat} {cs : Array Value} {T : TypeId} (h : Blk w b cs T) (i : Nat) : w.frozen? ⟨b, i, none⟩ = false := by
  unfold Blk at h; simp only [World.frozen?, h]; simp
theorem Blk.lt {w : World} {b : Nat} {cs : Array Value} {T : TypeId} (h : Blk w b cs T) : b < w.heap.size := (Array.getElem?_eq_some_iff.1 h).1
theorem Blk.below {w w' : World} {b B : Nat} {cs : Array Value} {T : TypeId} (h : Blk w b cs T) (hb : Below B w w') (hB : b < B) : Blk w' b cs T := by
  unfold Blk; rw [hb.block b hB]; exact h
theorem Blk.later {W : World} {b : Nat} {cs : Array Value} {T : TypeId} (h : Blk W b cs T) (m : Later W) : Blk m.w b cs T := h.below m.below h.lt
theorem Blk.made (w : World) (cs : Array Value) (T : TypeId) {b : Nat} (hb : b = w.heap.size) : Blk (w.alloc (.cells cs T)) b cs T := by
  subst hb
  show (w.heap.push _)[w.heap.size]? = _
  simp
theorem Blk.alloc {w : World} {b : Nat} {cs : Array Value} {T : TypeId} (h : Blk w b cs T) (o : Obj) : Blk (w.alloc o) b cs T := by
  have := h.lt
  unfold Blk; rw [Below.heap_alloc _ _ _ h.lt]; exact h
theorem Blk.store {w : World} {b : Nat} {cs : Array Value} {T : TypeId} (h : Blk w b cs T) (i : Nat) (v : Value) : Blk (w.setCell ⟨b, i, none⟩ v) b (cs.setIfInBounds i v) T := by
  unfold Blk at *
  simp only [World.setCell, Array.getElem?_modify, h]
  simp
theorem Blk.other {w : World} {b : Nat} {cs : Array Value} {T : TypeId} (h : Blk w b cs T) {a : Addr} (v : Value) (hne : b ≠ a.block) : Blk (w.setCell a v) b cs T := by
  unfold Blk at *; rw [Below.heap_setCell _ _ _ _ hne]; exact h
theorem Blk.drew {w : World} {b : Nat} {cs : Array Value} {T : TypeId} (h : Blk w b cs T) : Blk w.drew b cs T := h

theorem alloc1 {w W1 : World} {c0 : Array Value} {T0 : TypeId} (h : w.alloc (.cells c0 T0) = W1) :
    Below w.heap.size w W1 ∧ W1.heap.size = w.heap.size + 1 ∧ Blk W1 w.heap.size c0 T0 := by
  subst h
  exact ⟨(Below.refl _ _).alloc (Nat.le_refl _) _, by simp, Blk.made _ _ _ rfl⟩
theorem alloc2 {w W1 : World} {c0 c1 : Array Value} {T0 T1 : TypeId} (h : (w.alloc (.cells c0 T0)).alloc (.cells c1 T1) = W1) :
    Below w.heap.size w W1 ∧ W1.heap.size = w.heap.size + 2 ∧ Blk W1 w.heap.size c0 T0 ∧ Blk W1 (w.heap.size + 1) c1 T1 := by
  subst h
  exact ⟨((Below.refl _ _).alloc (Nat.le_refl _) _).alloc (by simp) _, by simp, (Blk.made _ _ _ rfl).alloc _, Blk.made _ _ _ (by simp)⟩
theorem alloc3 {w W1 : World} {c0 c1 c2 : Array Value} {T0 T1 T2 : TypeId} (h : ((w.alloc (.cells c0 T0)).alloc (.cells c1 T1)).alloc (.cells c2 T2) = W1) :
    Below w.heap.size w W1 ∧ W1.heap.size = w.heap.size + 3 ∧ Blk W1 w.heap.size c0 T0 ∧ Blk W1 (w.heap.size + 1) c1 T1 ∧ Blk W1 (w.heap.size + 1 + 1) c2 T2 := by
  subst h
  exact ⟨(((Below.refl _ _).alloc (Nat.le_refl _) _).alloc (by simp) _).alloc (by simp; omega) _, by simp, ((Blk.made _ _ _ rfl).alloc _).alloc _, (Blk.made _ _ _ (by simp)).alloc _, Blk.made _ _ _ (by simp)⟩

/-- A struct that has been boxed: its cells, and that the world has grown. -/
theorem box_facts {w W1 : World} {cs : Array Value} {T : TypeId} (h : w.alloc (.cells cs T) = W1) :
    Below w.heap.size w W1 ∧ w.heap.size < W1.heap.size ∧ (∀ i, W1.cell? ⟨w.heap.size, i, none⟩ = cs[i]?) ∧ (∀ i, W1.frozen? ⟨w.heap.size, i, none⟩ = false) := by
  subst h
  have hh : (w.alloc (.cells cs T)).heap[w.heap.size]? = some (.cells cs T (0, 0)) := by
    show (w.heap.push _)[w.heap.size]? = _
    simp
  refine ⟨(Below.refl _ _).alloc (Nat.le_refl _) _, by simp, fun i => ?_, fun i => ?_⟩
  · simp only [World.cell?, hh]; rfl
  · simp only [World.frozen?, hh]; simp

end Go.Proofs.YtjikmjhpmkakoaaGreatDoor

namespace Go.Proofs.YtjikmjhpmkakoaaGreatDoor
open Go.RowKit

/-- Below block B the world w' is as w was, but for the blocks of X. -/
structure Only (X : Nat → Prop) (B : Nat) (w w' : World) : Prop where
  os : w'.os = w.os
  tape : w'.tape = w.tape
  output : w'.output = w.output
  size : w.heap.size ≤ w'.heap.size
  block : ∀ k, k < B → ¬X k → w'.heap[k]? = w.heap[k]?
theorem Only.refl (X : Nat → Prop) (B : Nat) (w : World) : Only X B w w := ⟨rfl, rfl, rfl, Nat.le_refl _, fun _ _ _ => rfl⟩
theorem Only.trans {X : Nat → Prop} {B : Nat} {a b c : World} (h : Only X B a b) (k : Only X B b c) : Only X B a c :=
  ⟨k.os.trans h.os, k.tape.trans h.tape, k.output.trans h.output, Nat.le_trans h.size k.size, fun i hi hx => (k.block i hi hx).trans (h.block i hi hx)⟩
theorem Only.mono {X Y : Nat → Prop} {B B' : Nat} {w w' : World} (h : Only X B w w') (hB : B' ≤ B) (hX : ∀ b, b < B' → X b → Y b) : Only Y B' w w' :=
  ⟨h.os, h.tape, h.output, h.size, fun k hk hx => h.block k (Nat.lt_of_lt_of_le hk hB) fun h' => hx (hX k hk h')⟩
theorem Only.of {X : Nat → Prop} {B : Nat} {w w' : World} (h : Below B w w') : Only X B w w' := ⟨h.os, h.tape, h.output, h.size, fun k hk _ => h.block k hk⟩
theorem Only.below {X : Nat → Prop} {B B' : Nat} {w w' : World} (h : Only X B w w') (hB : B' ≤ B) (hX : ∀ b, b < B' → ¬X b) : Below B' w w' :=
  ⟨h.os, h.tape, h.output, h.size, fun k hk => h.block k (Nat.lt_of_lt_of_le hk hB) (hX k hk)⟩
theorem Only.more {X : Nat → Prop} {B B' : Nat} {a w w' : World} (h : Only X B a w) (k : Below B' w w') (hB : B ≤ B') : Only X B a w' := h.trans (Only.of (k.mono hB))
theorem Only.setCell {X : Nat → Prop} {B : Nat} {a w : World} (h : Only X B a w) {p : Addr} (hp : X p.block ∨ B ≤ p.block) (u : Value) : Only X B a (w.setCell p u) :=
  h.trans ⟨rfl, rfl, rfl, by simp [World.setCell], fun k hk hx => Below.heap_setCell _ _ _ _ (fun e => by subst e; rcases hp with h | h; exact hx h; omega)⟩
theorem Only.cell {X : Nat → Prop} {B : Nat} {w w' : World} (h : Only X B w w') {p : Addr} (hp : p.block < B) (hx : ¬X p.block) : w'.cell? p = w.cell? p := World.cell?_of_block (w := w) (h.block p.block hp hx)
theorem Only.frozen {X : Nat → Prop} {B : Nat} {w w' : World} (h : Only X B w w') {p : Addr} (hp : p.block < B) (hx : ¬X p.block) : w'.frozen? p = w.frozen? p := World.frozen?_of_block (w := w) (h.block p.block hp hx)
theorem Only.blk {X : Nat → Prop} {B : Nat} {w w' : World} (h : Only X B w w') {b : Nat} {cs : Array Value} {T : TypeId} (hb : Blk w b cs T) (hB : b < B) (hx : ¬X b) : Blk w' b cs T := by
  unfold Blk; rw [h.block b hB hx]; exact hb

/-- A world that has grown from W, the blocks of X aside. -/
structure LateX (X : Nat → Prop) (W : World) where
  w : World
  only : Only X W.heap.size W w
@[go_sem] theorem LateX.cell {X : Nat → Prop} {W : World} (m : LateX X W) (b o : Nat) (h : b < W.heap.size) (hx : ¬X b) : m.w.cell? ⟨b, o, none⟩ = W.cell? ⟨b, o, none⟩ := m.only.cell (p := ⟨b, o, none⟩) h hx
@[go_sem] theorem LateX.frozen {X : Nat → Prop} {W : World} (m : LateX X W) (b o : Nat) (h : b < W.heap.size) (hx : ¬X b) : m.w.frozen? ⟨b, o, none⟩ = W.frozen? ⟨b, o, none⟩ := m.only.frozen (p := ⟨b, o, none⟩) h hx
theorem LateX.size {X : Nat → Prop} {W : World} (m : LateX X W) : W.heap.size ≤ m.w.heap.size := m.only.size
def LateX.refl (X : Nat → Prop) (W : World) : LateX X W := ⟨W, Only.refl _ _ _⟩
instance (X : Nat → Prop) (W : World) : Nonempty (LateX X W) := ⟨LateX.refl X W⟩
theorem LateX.blk {X : Nat → Prop} {W : World} (m : LateX X W) {b : Nat} {cs : Array Value} {T : TypeId} (hb : Blk W b cs T) (hx : ¬X b) : Blk m.w b cs T := m.only.blk hb hb.lt hx

end Go.Proofs.YtjikmjhpmkakoaaGreatDoor

namespace Go.Proofs.YtjikmjhpmkakoaaGreatDoor
open Go.RowKit

theorem IntKind_i64_in (n : Int) (h0 : -9223372036854775808 ≤ n) (h1 : n ≤ 9223372036854775807) : IntKind.i64.wrap n = n := IntWalk.i64_in _ ⟨h0, h1⟩

theorem within_any (n lo hi : Int) (w : World) :
    Calls Tryz.prog 59 #[.int .i64 n, .int .i64 lo, .int .i64 hi] w fun e w' => e = .returned (.bool (decide (lo ≤ n) && decide (n ≤ hi))) ∧ w = w' := by
  go_enter Tryz.func59, Tryz.ntmps59
  go_wp2
  all_goals go_ret
  all_goals simp [*]
  all_goals omega

theorem l1In_any (n lo hi : Int) (w : World) :
    Calls Tryz.prog 54 #[.int .i64 n, .int .i64 lo, .int .i64 hi] w fun e w' => e = .returned (.bool (decide (lo ≤ n) && decide (n ≤ hi))) ∧ w = w' := by
  go_enter Tryz.func54, Tryz.ntmps54
  go_wp2
  all_goals go_ret
  all_goals simp [*]
  all_goals omega

/-- Bit v of s, as Go's s>>v&1 == 1 gives it. -/
def hasN (s : Int) (v : Nat) : Bool := bits .and .i64 (s / 2 ^ v) 1 == 1
/-- Go's 1<<n. -/
def pwN (n : Nat) : Int := IntKind.i64.wrap (2 ^ n)
@[go_sem] theorem hasN_fold (s : Int) (v : Nat) : (bits .and .i64 (s / 2 ^ v) 1 == 1) = hasN s v := rfl
theorem wrap_nat (n : Nat) (h : n < 9223372036854775808) : IntKind.i64.wrap (n : Int) = n := IntKind_i64_in _ (by omega) (by omega)
theorem bits_and_nat (a b : Nat) (ha : a < 9223372036854775808) (hb : b < 9223372036854775808) : bits .and .i64 (a : Int) (b : Int) = ((a &&& b : Nat) : Int) := by
  have h := Nat.and_lt_two_pow (n := 63) a hb
  show IntKind.i64.wrap ((BitVec.ofInt 64 a &&& BitVec.ofInt 64 b).toNat : Nat) = _
  simp only [BitVec.ofInt_natCast, BitVec.toNat_and, BitVec.toNat_ofNat]
  rw [Nat.mod_eq_of_lt (by omega), Nat.mod_eq_of_lt (by omega), wrap_nat _ (by omega)]
theorem bits_or_nat (a b : Nat) (ha : a < 9223372036854775808) (hb : b < 9223372036854775808) : bits .or .i64 (a : Int) (b : Int) = ((a ||| b : Nat) : Int) := by
  have h := Nat.or_lt_two_pow (n := 63) ha hb
  show IntKind.i64.wrap ((BitVec.ofInt 64 a ||| BitVec.ofInt 64 b).toNat : Nat) = _
  simp only [BitVec.ofInt_natCast, BitVec.toNat_or, BitVec.toNat_ofNat]
  rw [Nat.mod_eq_of_lt (by omega), Nat.mod_eq_of_lt (by omega), wrap_nat _ (by omega)]
theorem bits_xor_nat (a b : Nat) (ha : a < 9223372036854775808) (hb : b < 9223372036854775808) : bits .xor .i64 (a : Int) (b : Int) = ((a ^^^ b : Nat) : Int) := by
  have h := Nat.xor_lt_two_pow (n := 63) ha hb
  show IntKind.i64.wrap ((BitVec.ofInt 64 a ^^^ BitVec.ofInt 64 b).toNat : Nat) = _
  simp only [BitVec.ofInt_natCast, BitVec.toNat_xor, BitVec.toNat_ofNat]
  rw [Nat.mod_eq_of_lt (by omega), Nat.mod_eq_of_lt (by omega), wrap_nat _ (by omega)]
/-- The members of a that are not in b. -/
def nDiff (a b : Nat) : Nat := a ^^^ (a &&& b)
theorem testBit_nDiff (a b i : Nat) : (nDiff a b).testBit i = (a.testBit i && !b.testBit i) := by
  unfold nDiff; simp only [Nat.testBit_xor, Nat.testBit_and]; cases a.testBit i <;> cases b.testBit i <;> rfl
theorem nDiff_lt {a b n : Nat} (ha : a < 2 ^ n) : nDiff a b < 2 ^ n := Nat.xor_lt_two_pow ha (Nat.lt_of_le_of_lt Nat.and_le_left ha)
theorem bits_andNot_nat (a b : Nat) (ha : a < 9223372036854775808) : bits .andNot .i64 (a : Int) (b : Int) = (nDiff a b : Int) := by
  have h := nDiff_lt (n := 63) (b := b) ha
  have e : (BitVec.ofInt 64 a &&& ~~~BitVec.ofInt 64 b).toNat = nDiff a b := by
    simp only [BitVec.ofInt_natCast]
    apply Nat.eq_of_testBit_eq
    intro i
    rw [testBit_nDiff, ← BitVec.getLsbD, BitVec.getLsbD_and, BitVec.getLsbD_not, BitVec.getLsbD_ofNat, BitVec.getLsbD_ofNat]
    by_cases hi : i < 64
    · simp [hi]
    · have : a.testBit i = false := Nat.testBit_lt_two_pow (Nat.lt_of_lt_of_le (by omega : a < 2 ^ 63) (Nat.pow_le_pow_right (by decide) (by omega)))
      simp [hi, this]
  show IntKind.i64.wrap ((BitVec.ofInt 64 a &&& ~~~BitVec.ofInt 64 b).toNat : Nat) = _
  rw [e, wrap_nat _ (by omega)]
theorem bits_one (x : Int) : bits .and .i64 x 1 = x % 2 := by
  have e : (BitVec.ofInt 64 1).toNat = 1 := by decide
  show IntKind.i64.wrap ((BitVec.ofInt 64 x &&& BitVec.ofInt 64 1).toNat : Nat) = _
  rw [BitVec.toNat_and, e, Nat.and_one_is_mod, BitVec.toNat_ofInt, wrap_nat _ (by omega)]
  omega
@[go_sem] theorem hasN_fold0 (s : Int) (v : Nat) : (bits .and .i64 (s / 2 ^ v) 1 == 0) = !hasN s v := by
  unfold hasN; rw [bits_one, Bool.eq_iff_iff]; simp; omega
@[go_sem] theorem pwN_fold (n : Nat) : IntKind.i64.wrap (2 ^ n) = pwN n := rfl
/-- Of a number that is not negative: the bit. -/
theorem hasN_nat (s v : Nat) : hasN s v = s.testBit v := by
  unfold hasN
  rw [bits_one, Bool.eq_iff_iff]
  simp only [beq_iff_eq, Nat.testBit_eq_decide_div_mod_eq, decide_eq_true_eq]
  have : ((s : Int) / 2 ^ v) = ((s / 2 ^ v : Nat) : Int) := by simp
  rw [this]; omega
theorem or_pow (a k : Nat) (h : a < 2 ^ k) : a ||| 2 ^ k = a + 2 ^ k := by
  have := Nat.two_pow_add_eq_or_of_lt h 1
  rw [Nat.mul_one] at this
  rw [Nat.or_comm, ← this, Nat.add_comm]
theorem pwN_small (n : Nat) (h : n ≤ 62) : pwN n = ((2 ^ n : Nat) : Int) := by
  unfold pwN
  have : 2 ^ n ≤ 2 ^ 62 := Nat.pow_le_pow_right (by decide) h
  rw [show ((2 : Int) ^ n) = ((2 ^ n : Nat) : Int) by simp, wrap_nat _ (by omega)]

/-- The first number below n for which something holds. -/
def firstB (p : Nat → Bool) (n : Nat) : Option Nat := (List.range n).find? p
theorem firstB_hit {p : Nat → Bool} {n k : Nat} (hk : k < n) (h : ∀ j, j < k → p j = false) (hp : p k = true) : firstB p n = some k := by
  unfold firstB
  rw [List.find?_range_eq_some]
  exact ⟨hp, by simpa using hk, fun j hj => by simp [h j hj]⟩
theorem firstB_none {p : Nat → Bool} {n : Nat} (h : ∀ j, j < n → p j = false) : firstB p n = none := by
  unfold firstB
  rw [List.find?_range_eq_none]
  intro j hj
  simp [h j hj]

theorem has_any (s v : Int) (hv : 0 ≤ v) (hv2 : v ≤ 63) (w : World) :
    Calls Tryz.prog 60 #[.int .i64 s, .int .i64 v] w fun e w' => e = .returned (.bool (hasN s v.toNat)) ∧ w = w' := by
  go_enter Tryz.func60, Tryz.ntmps60
  go_wp2
  go_ret
  exact ⟨rfl, rfl⟩

theorem all_any (n : Int) (r : Value) (hv : 0 ≤ n) (hv2 : n ≤ 62) (w : World) :
    Calls Tryz.prog 46 #[.agg #[.int .i64 n, r]] w fun e w' => e = .returned (.int .i64 (wrap64 (pwN n.toNat - 1))) ∧ Below w.heap.size w w' := by
  go_enter Tryz.func46, Tryz.ntmps46
  go_wp2
  go_ret
  exact ⟨rfl, (Below.refl _ _).alloc (Nat.le_refl _) _⟩
end Go.Proofs.YtjikmjhpmkakoaaGreatDoor

namespace Go.Proofs.YtjikmjhpmkakoaaGreatDoor
open Go.RowKit

theorem info_int : (Tryz.prog.info? 3).map (fun i => (i.zero, i.size, i.bytes)) = some (some (.int .i64 0), 1, 8) := by kernel_rfl

/-- A row of integers as a block's cells. -/
def intRow (xs : List Int) : Array Value := (xs.map (Value.int .i64)).toArray
theorem intRow_size (xs : List Int) : (intRow xs).size = xs.length := by simp [intRow]
theorem intRow_get (xs : List Int) (k : Nat) (hk : k < xs.length) : (intRow xs)[k]? = some (.int .i64 (gi xs k)) := by simp [intRow, gi, hk]
theorem intRow_set (xs : List Int) (k : Nat) (x : Int) : (intRow xs).setIfInBounds k (.int .i64 x) = intRow (xs.set k x) := by simp [intRow]

/-- Block b of the world is a row of integers, all of it, nothing frozen. -/
def OwnInts (w : World) (b : Nat) (xs : List Int) : Prop := Blk w b (intRow xs) 3
theorem OwnInts.cell {w : World} {b : Nat} {xs : List Int} (h : OwnInts w b xs) (k : Nat) (hk : k < xs.length) : w.cell? ⟨b, k, none⟩ = some (.int .i64 (gi xs k)) := by
  rw [Blk.cell h, intRow_get _ _ hk]
theorem OwnInts.frozen {w : World} {b : Nat} {xs : List Int} (h : OwnInts w b xs) (k : Nat) : w.frozen? ⟨b, k, none⟩ = false := Blk.frozen h k
theorem OwnInts.lt {w : World} {b : Nat} {xs : List Int} (h : OwnInts w b xs) : b < w.heap.size := Blk.lt h
theorem OwnInts.ints {w : World} {b : Nat} {xs : List Int} (h : OwnInts w b xs) : IntsAt w (some ⟨b, 0, none⟩) xs := fun _ =>
  ⟨b, 0, rfl, h.lt, fun k hk => by rw [Nat.zero_add]; exact h.cell k hk⟩
theorem OwnInts.below {w w' : World} {b B : Nat} {xs : List Int} (h : OwnInts w b xs) (hb : Below B w w') (hB : b < B) : OwnInts w' b xs := Blk.below h hb hB
theorem OwnInts.later {W : World} {b : Nat} {xs : List Int} (h : OwnInts W b xs) (m : Later W) : OwnInts m.w b xs := Blk.later h m
theorem OwnInts.made (w : World) (xs : List Int) : OwnInts (w.alloc (.cells (intRow xs) 3)) w.heap.size xs := Blk.made _ _ _ rfl
theorem OwnInts.store {w : World} {b : Nat} {xs : List Int} (h : OwnInts w b xs) (k : Nat) (x : Int) : OwnInts (w.setCell ⟨b, k, none⟩ (.int .i64 x)) b (xs.set k x) := by
  have := Blk.store h k (.int .i64 x)
  rw [intRow_set] at this; exact this
/-- A store into another block. -/
theorem OwnInts.other {w : World} {b : Nat} {xs : List Int} (h : OwnInts w b xs) {a : Addr} (v : Value) (hne : b ≠ a.block) : OwnInts (w.setCell a v) b xs := Blk.other h v hne

theorem run_make_ints (n : Nat) (hn : n ≤ 35184372088832) (w : World) : (Instr.makeSlice 24 (.int .i64 n) (.int .i64 n)).run Tryz.prog w = .ok (.slice (some ⟨w.heap.size, 0, none⟩) n n) (w.alloc (.cells (intRow (List.replicate n 0)) 3)) := by
  obtain ⟨i0, hi, hz0, hz1, hz2⟩ := info_parts info_int
  rw [run_make (P := Tryz.prog) w 24 3 i0 (.int .i64 0) Tryz.underlying24 hi hz0 .i64 .i64 n n (by omega) (by omega) (by rw [hz2]; omega) (by omega), hz1]
  have e : madeCells (Value.cells (.int .i64 0)) ((n : Int).toNat * 1) = intRow (List.replicate n 0) := by
    apply Array.ext
    · simp [madeCells, intRow]
    · intro i h1 h2
      simp only [madeCells, intRow, Value.cells] at h1 h2 ⊢
      simp [Nat.mod_one]
  rw [e]
  simp



def sameInts (xs ys : List Int) : Bool := decide (xs = ys)
theorem sameInts_len {xs ys : List Int} (h : ¬ xs.length = ys.length) : sameInts xs ys = false := by
  simp only [sameInts, decide_eq_false_iff_not]; intro e; exact h (by rw [e])
theorem sameInts_at {xs ys : List Int} {k : Nat} (h : ¬ gi xs k = gi ys k) : sameInts xs ys = false := by
  simp only [sameInts, decide_eq_false_iff_not]; intro e; exact h (by rw [e])
theorem gi_ext {xs ys : List Int} (hl : xs.length = ys.length) (h : ∀ j, j < xs.length → gi xs j = gi ys j) : xs = ys := by
  apply List.ext_getElem hl
  intro j h1 h2
  have := h j h1
  simpa [gi, h1, h2] using this
theorem sameInts_all {xs ys : List Int} (hl : xs.length = ys.length) (h : ∀ j, j < xs.length → gi xs j = gi ys j) : sameInts xs ys = true := by
  simp only [sameInts, decide_eq_true_eq]; exact gi_ext hl h
theorem sameInts_refl (xs : List Int) : sameInts xs xs = true := by simp [sameInts]


end Go.Proofs.YtjikmjhpmkakoaaGreatDoor
