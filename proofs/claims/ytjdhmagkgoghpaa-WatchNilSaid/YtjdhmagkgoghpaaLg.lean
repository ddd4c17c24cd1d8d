/- A log as data, and what With makes of it: plain. -/
import Derived.Test.YtjdhmagkgoghpaaMem
namespace Go.Proofs.Ytjdhmagkgoghpaa
set_option linter.unusedVariables false
structure Lg where
  keep : Nat
  L : List Ch
  last : Int
  hor : Int
def stampAll (s : Int) (cs : List Ch) : List Ch := cs.map fun c => ⟨s, c.c, c.i, c.k⟩
theorem stampAll_length (s : Int) (cs : List Ch) : (stampAll s cs).length = cs.length := by simp [stampAll]
def Lg.put (l : Lg) (s : Int) (cs : List Ch) : Lg :=
  if s ≤ l.last ∨ cs.length = 0 then l else
  if l.L.length + cs.length ≤ l.keep then ⟨l.keep, l.L ++ stampAll s cs, s, l.hor⟩
  else ⟨l.keep, (l.L ++ stampAll s cs).drop (l.L.length + cs.length - l.keep), s, ((l.L ++ stampAll s cs)[l.L.length + cs.length - l.keep - 1]?.map Ch.s).getD 0⟩
open Go.RowKit
/-- A log of the program's, at a pointer: its cells, and the list. -/
def PLog (w : World) (g : Nat) (l : Lg) : Prop :=
  ∃ A c, Blk w g 55 #[.int .i64 l.keep, .slice A l.L.length c, .int .i64 l.last, .int .i64 l.hor] ∧ l.L.length ≤ c ∧ (A = none → c = 0) ∧ (l.L.length = 0 → c = 0) ∧ Rd w w.heap.size A l.L
/-- A log of the document's, a value. -/
def RLog (w : World) (v : Value) (l : Lg) : Prop :=
  ∃ A c, v = .agg #[.int .i64 l.keep, .slice A l.L.length c, .int .i64 l.hor, .int .i64 l.last] ∧ l.L.length ≤ c ∧ Rd w w.heap.size A l.L
theorem PLog.lt {w : World} {g : Nat} {l : Lg} (h : PLog w g l) : g < w.heap.size := by
  obtain ⟨_, _, h, _⟩ := h
  exact h.lt
theorem PLog.below {w w' : World} {g : Nat} {l : Lg} (h : PLog w g l) (hb : Below w.heap.size w w') : PLog w' g l := by
  obtain ⟨A, c, h1, h2, h3, h4, h5⟩ := h
  exact ⟨A, c, h1.below hb h1.lt, h2, h3, h4, (h5.below hb).more hb.size⟩
theorem RLog.below {w w' : World} {v : Value} {l : Lg} (h : RLog w v l) (hb : Below w.heap.size w w') : RLog w' v l := by
  obtain ⟨A, c, h1, h2, h5⟩ := h
  exact ⟨A, c, h1, h2, (h5.below hb).more hb.size⟩
def WithPost (w : World) (l : Lg) (e : Ending) (w' : World) : Prop :=
  ∃ g', e = .returned (.pointer (some ⟨g', 0, none⟩)) ∧ Below w.heap.size w w' ∧ PLog w' g' l
theorem put_fits (l : Lg) (s : Int) (cs : List Ch) (hs : l.last < s) (hm : 0 < cs.length) (h : l.L.length + cs.length ≤ l.keep) : l.put s cs = ⟨l.keep, l.L ++ stampAll s cs, s, l.hor⟩ := by
  unfold Lg.put
  rw [if_neg (by omega), if_pos h]
theorem put_goes (l : Lg) (s : Int) (cs : List Ch) (hs : l.last < s) (hm : 0 < cs.length) (h : l.keep < l.L.length + cs.length) (x : Ch) (hx : (l.L ++ stampAll s cs)[l.L.length + cs.length - l.keep - 1]? = some x) :
    l.put s cs = ⟨l.keep, (l.L ++ stampAll s cs).drop (l.L.length + cs.length - l.keep), s, x.s⟩ := by
  unfold Lg.put
  rw [if_neg (by omega), if_neg (by omega), hx]
  rfl
theorem put_same (l : Lg) (s : Int) (cs : List Ch) (h : s ≤ l.last ∨ cs.length = 0) : l.put s cs = l := by
  unfold Lg.put
  rw [if_pos h]
end Go.Proofs.Ytjdhmagkgoghpaa
