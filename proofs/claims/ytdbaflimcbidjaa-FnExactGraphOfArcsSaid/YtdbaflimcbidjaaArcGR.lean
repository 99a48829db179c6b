/-
  GraphOfArcs on both sides, as the law wants it: a list of rows and whether it is a graph.
-/
import Derived.Test.YtdbaflimcbidjaaArcG
import Derived.Test.YtdbaflimcbidjaaMarkX
namespace Go.Proofs.Ytdbaflimcbidjaa
open Go.RowKit

/-- What a call that makes a graph returns. -/
def RetG (w : World) (R : List Int) (ok : Bool) (e : Ending) (w' : World) : Prop :=
  ∃ ao cap, e = .returned (.tuple #[.agg #[.int .i64 R.length, .slice ao R.length cap], .bool ok]) ∧ Below w.heap.size w w' ∧ OwnE w' w.heap.size ao cap R
theorem RetG.of {w w' : World} {R : List Int} {ok : Bool} {e : Ending} {N g1 cap : Nat} (hN : R.length = N) (h : e = .returned (.tuple #[.agg #[.int .i64 N, .slice (some ⟨g1, 0, none⟩) N cap], .bool ok])) (hB : Below w.heap.size w w') (hg : w.heap.size ≤ g1) (hR : RowAt w' g1 cap R) : RetG w R ok e w' :=
  ⟨_, cap, by rw [h, hN], hB, hR.own hg⟩
theorem RetG.no {w w' : World} {e : Ending} (h : e = .returned (.tuple #[.agg #[.int .i64 0, .slice none 0 0], .bool false])) (hB : Below w.heap.size w w') : RetG w [] false e w' :=
  ⟨none, 0, h, hB, .inl (OwnL.nil _ _)⟩

def arcGV (c : Int) (f l : List Int) : List Int := if isArcsB c f l = true then arcG c f l else []
theorem arcGV_len (c : Int) (f l : List Int) : (arcGV c f l).length ≤ 1048576 := by
  unfold arcGV
  split
  · rename_i h
    have := (isArcsB_true h).2.2.2.1
    rw [arcG, gOf_len]; omega
  · simp
theorem specArcG_ret (c : Int) (f l : List Int) (fa la : Option Addr) (fc lc : Nat) (w : World) (hf : IntsAt w fa f) (hl : IntsAt w la l) (hfl : f.length ≤ 1048576) (hll : l.length ≤ 1048576) :
    Calls Try.prog 21 #[.agg #[.int .i64 c, .slice fa f.length fc, .slice la l.length lc]] w (RetG w (arcGV c f l) (isArcsB c f l)) := by
  cases hv : isArcsB c f l
  · rw [show arcGV c f l = [] by unfold arcGV; rw [if_neg (by rw [hv]; decide)]]
    exact (specArcG_bad c f l fa la fc lc w hv hf hl hfl hll).mono fun e w' ⟨h1, h2⟩ => RetG.no h1 h2
  · rw [show arcGV c f l = arcG c f l by unfold arcGV; rw [if_pos hv]]
    exact (specArcG_any c f l fa la fc lc w hv hf hl).mono fun e w' ⟨g1, cap, h1, h2, h3, h4⟩ => RetG.of (gOf_len _ _) h1 h2 h3 h4
theorem implArcG_ret (c : Int) (f l : List Int) (fa la : Option Addr) (fc lc : Nat) (w : World) (hf : IntsAt w fa f) (hl : IntsAt w la l) (hfl : f.length ≤ 1048576) (hll : l.length ≤ 1048576) :
    Calls Try.prog 22 #[.agg #[.int .i64 c, .slice fa f.length fc, .slice la l.length lc]] w (RetG w (arcGV c f l) (isArcsB c f l)) := by
  cases hv : isArcsB c f l
  · rw [show arcGV c f l = [] by unfold arcGV; rw [if_neg (by rw [hv]; decide)]]
    exact (implArcG_bad c f l fa la fc lc w hv hf hl hfl hll).mono fun e w' ⟨h1, h2⟩ => RetG.no h1 h2
  · rw [show arcGV c f l = arcG c f l by unfold arcGV; rw [if_pos hv]]
    exact (implArcG_any c f l fa la fc lc w hv hf hl).mono fun e w' ⟨g1, cap, h1, h2, h3, h4⟩ => RetG.of (gOf_len _ _) h1 h2 h3 h4

end Go.Proofs.Ytdbaflimcbidjaa
