/- A log as data, and what With makes of it: plain. -/
import Derived.Test.YtjdhmagkgoghpaaMem
namespace Go.Proofs.Ytjdhmagkgoghpaa
set_option linter.unusedVariables false
structure Lg where
  keep : Nat
  L : List Ch
  last : Int
  hor : Int
def stampAll (s : Int) (cs : List Ch) : List Ch := cs.map fun c => ⟨s, c.c, c.i, c.k⟩
theorem stampAll_length (s : Int) (cs : List Ch) : (stampAll s cs).length = cs.length := by simp [stampAll]
def Lg.put (l : Lg) (s : Int) (cs : List Ch) : Lg :=
  if s ≤ l.last ∨ cs.length = 0 then l else
  if l.L.length + cs.length ≤ l.keep then ⟨l.keep, l.L ++ stampAll s cs, s, l.hor⟩
  else ⟨l.keep, (l.L ++ stampAll s cs).drop (l.L.length + cs.length - l.keep), s, ((l.L ++ stampAll s cs)[l.L.length + cs.length - l.keep - 1]?.map Ch.s).getD 0⟩
open Go.RowKit
/-- A log of the program's, at a pointer: its cells, and the list. -/
def PLogAt (w : World) (g : Nat) (A : Option Addr) (l : Lg) : Prop :=
  ∃ c, Blk w g 55 #[.int .i64 l.keep, .slice A l.L.length c, .int .i64 l.last, .int .i64 l.hor] ∧ l.L.length ≤ c ∧ (A = none → c = 0) ∧ (l.L.length = 0 → A = none) ∧ Rd w w.heap.size A l.L
def PLog (w : World) (g : Nat) (l : Lg) : Prop := ∃ A, PLogAt w g A l
/-- A log of the document's, a value. -/
def RLog (w : World) (v : Value) (l : Lg) : Prop :=
  ∃ A c, v = .agg #[.int .i64 l.keep, .slice A l.L.length c, .int .i64 l.hor, .int .i64 l.last] ∧ l.L.length ≤ c ∧ Rd w w.heap.size A l.L
theorem PLogAt.lt {w : World} {g : Nat} {A : Option Addr} {l : Lg} (h : PLogAt w g A l) : g < w.heap.size := by
  obtain ⟨_, h, _⟩ := h
  exact h.lt
theorem PLogAt.below {w w' : World} {g : Nat} {A : Option Addr} {l : Lg} (h : PLogAt w g A l) (hb : Below w.heap.size w w') : PLogAt w' g A l := by
  obtain ⟨c, h1, h2, h3, h4, h5⟩ := h
  exact ⟨c, h1.below hb h1.lt, h2, h3, h4, (h5.below hb).more hb.size⟩
theorem PLogAt.grown {w w' : World} {g : Nat} {A : Option Addr} {l : Lg} {row : Option Nat} (h : PLogAt w g A l) (hg : w.grownBy w' row) (h1 : some g ≠ row) (h2 : ∀ a, A = some a → some a.block ≠ row) : PLogAt w' g A l := by
  obtain ⟨c, e1, e2, e3, e4, e5⟩ := h
  refine ⟨c, e1.grown hg h1, e2, e3, e4, fun hl => ?_⟩
  obtain ⟨b, off, e, hb, hc⟩ := e5 hl
  have hne := h2 _ e
  refine ⟨b, off, e, Nat.lt_of_lt_of_le hb hg.size, fun i hi => ?_⟩
  obtain ⟨q0, q1, q2, q3⟩ := hc i hi
  have hk : ∀ o, w'.cell? ⟨b, o, none⟩ = w.cell? ⟨b, o, none⟩ := fun o => World.cell?_of_block (w := w) (a := ⟨b, o, none⟩) (hg.block b hb hne)
  exact ⟨(hk _).trans q0, (hk _).trans q1, (hk _).trans q2, (hk _).trans q3⟩
theorem PLog.lt {w : World} {g : Nat} {l : Lg} (h : PLog w g l) : g < w.heap.size := by
  obtain ⟨_, h⟩ := h
  exact h.lt
theorem PLog.below {w w' : World} {g : Nat} {l : Lg} (h : PLog w g l) (hb : Below w.heap.size w w') : PLog w' g l := by
  obtain ⟨A, h⟩ := h
  exact ⟨A, h.below hb⟩
theorem RLog.below {w w' : World} {v : Value} {l : Lg} (h : RLog w v l) (hb : Below w.heap.size w w') : RLog w' v l := by
  obtain ⟨A, c, h1, h2, h5⟩ := h
  exact ⟨A, c, h1, h2, (h5.below hb).more hb.size⟩
def WithPost (w : World) (A0 : Option Addr) (l : Lg) (e : Ending) (w' : World) : Prop :=
  ∃ g' A, e = .returned (.pointer (some ⟨g', 0, none⟩)) ∧ Below w.heap.size w w' ∧ PLogAt w' g' A l ∧ (A = A0 ∨ ∀ a, A = some a → w.heap.size ≤ a.block)
theorem put_keep (l : Lg) (s : Int) (cs : List Ch) : (l.put s cs).keep = l.keep := by
  unfold Lg.put
  split
  · rfl
  · split <;> rfl
theorem put_fits (l : Lg) (s : Int) (cs : List Ch) (hs : l.last < s) (hm : 0 < cs.length) (h : l.L.length + cs.length ≤ l.keep) : l.put s cs = ⟨l.keep, l.L ++ stampAll s cs, s, l.hor⟩ := by
  unfold Lg.put
  rw [if_neg (by omega), if_pos h]
theorem put_goes (l : Lg) (s : Int) (cs : List Ch) (hs : l.last < s) (hm : 0 < cs.length) (h : l.keep < l.L.length + cs.length) (x : Ch) (hx : (l.L ++ stampAll s cs)[l.L.length + cs.length - l.keep - 1]? = some x) :
    l.put s cs = ⟨l.keep, (l.L ++ stampAll s cs).drop (l.L.length + cs.length - l.keep), s, x.s⟩ := by
  unfold Lg.put
  rw [if_neg (by omega), if_neg (by omega), hx]
  rfl
theorem put_same (l : Lg) (s : Int) (cs : List Ch) (h : s ≤ l.last ∨ cs.length = 0) : l.put s cs = l := by
  unfold Lg.put
  rw [if_pos h]
end Go.Proofs.Ytjdhmagkgoghpaa
