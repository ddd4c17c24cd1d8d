/- A map keyed by strings, known entry by entry: look-up, a store at a new key, a range. -/
import Derived.Test.YtbjmakigdglghaaGreatDoorDdA
import Derived.Maps.OwnOps
import Derived.Maps.RangeWalk
import Derived.MapKept
import Derived.BigRegion
import Derived.Deep.RegionWith
import Derived.Deep.DrawnRows
import Derived.Shelf.Sort.Plain
import Derived.Test.YtbjmakigdglghaaGreatDoorProg
set_option linter.unusedVariables false
set_option linter.unusedSimpArgs false
set_option linter.unusedSectionVars false
namespace Go.Proofs.YtbjmakigdglghaaGreatDoor.Dd
set_option linter.unusedVariables false
open Go.RowKit Go.MapKept
abbrev En := ByteArray × Value
def look (es : List En) (k : ByteArray) : Option Value := (es.find? fun e => decide (e.1 = k)).map (·.2)
def ents : List En → Nat → List MapEntry
  | [], _ => []
  | e :: l, i => { key := .string e.1, val := e.2, born := i } :: ents l (i + 1)
/-- block b is a map that holds these entries, in the order in which they came -/
def MAt (w : World) (b : Nat) (es : List En) : Prop := w.heap[b]? = some (.map (ents es 0).toArray es.length)
theorem ents_length : ∀ (l : List En) (i : Nat), (ents l i).length = l.length
  | [], _ => rfl
  | _ :: l, i => by simp [ents, ents_length l]
theorem ents_get : ∀ (l : List En) (i j : Nat), (ents l i)[j]? = (l[j]?).map fun e => { key := .string e.1, val := e.2, born := i + j }
  | [], _, _ => by simp [ents]
  | e :: l, i, 0 => by simp [ents]
  | e :: l, i, j + 1 => by simp [ents, ents_get l, Nat.add_assoc, Nat.add_comm 1]
theorem ents_app : ∀ (l : List En) (i : Nat) (e : En), ents l i ++ [{ key := .string e.1, val := e.2, born := i + l.length }] = ents (l ++ [e]) i
  | [], i, e => by simp [ents]
  | x :: l, i, e => by simp [ents, ← ents_app l, Nat.add_assoc, Nat.add_comm 1]
theorem findNow_ents (k : ByteArray) : ∀ (l : List En) (i q : Nat), ∃ r, Instr.findNow .string (.string k) (ents l i) q = some r ∧ r.map (·.2) = look l k
  | [], _, _ => ⟨none, rfl, rfl⟩
  | e :: l, i, q => by
    simp only [ents, Instr.findNow, Instr.sameNow, look, List.find?_cons]
    by_cases h : e.1 = k
    · have h1 : (k == e.1) = true := (bytes_beq _ _).2 h.symm
      rw [h1]
      exact ⟨some (q, e.2), rfl, by simp [h]⟩
    · have h1 : (k == e.1) = false := by
        cases hb : k == e.1
        · rfl
        · exact absurd ((bytes_beq _ _).1 hb).symm h
      rw [h1]
      simp only [h, decide_false]
      exact findNow_ents k l (i + 1) (q + 1)
section
variable {P : Program} {w : World} {b : Nat} {es : List En} {t kt et : TypeId}
theorem MAt.made (w : World) : MAt (w.alloc (.map #[] 0)) w.heap.size [] := heap_alloc_new w _
theorem MAt.lt (h : MAt w b es) : b < w.heap.size := by
  rcases Nat.lt_or_ge b w.heap.size with hlt | hge
  · exact hlt
  · unfold MAt at h; rw [Array.getElem?_eq_none hge] at h; cases h
theorem MAt.keep {w' : World} (h : MAt w b es) (hk : w'.heap[b]? = w.heap[b]?) : MAt w' b es := hk.trans h
theorem MAt.drewN (h : MAt w b es) (n : Nat) : MAt (w.drewN n) b es := h
theorem MAt.alloc (h : MAt w b es) (o : Obj) : MAt (w.alloc o) b es := (Below.heap_alloc w o b h.lt).trans h
theorem MAt.below {B : Nat} {w' : World} (h : MAt w b es) (hb : Below B w w') (hlt : b < B) : MAt w' b es := (hb.block b hlt).trans h
theorem MAt.far {p : Addr} (h : MAt w b es) (hp : b ≠ p.block) (u : Value) : MAt (w.setCell p u) b es := (Below.heap_setCell w p u b hp).trans h
theorem isKey_str (k : ByteArray) : IsKey .string (.string k) := by first | exact ⟨k, rfl⟩ | constructor | simp [IsKey]
theorem run_lookup_at (ht : P.underlying t = some (.map kt et)) (hk : P.underlying kt = some .string) {z : Value} (hz : (zeroValue et).run P w = .ok z w) (h : MAt w b es) (k : ByteArray) :
    (Instr.lookup t (.map (some b)) (.string k) true).run P w = .ok (.tuple #[(look es k).getD z, .bool (look es k).isSome]) w := by
  unfold MAt at h
  obtain ⟨r, h1, h2⟩ := findNow_ents k es 0 0
  have hf := run_findKey (P := P) (w := w) hk h1
  have hc := run_checkKey (P := P) (w := w) hk (isKey_str k) (ents es 0).toArray.isEmpty 9999
  unfold Instr.lookup
  rw [Sem.run_bind, run_underlying ht]
  simp only [Result.andThen_ok, Sem.run_bind, Go.MapKept.run_getObj_map h, Sem.run_pure, hc, hf]
  cases r with
  | none => simp only [Option.map_none] at h2; rw [← h2]; simp [hz, Sem.run_bind, ← bind_pure_comp]
  | some x => simp only [Option.map_some] at h2; rw [← h2]; simp
def putMap (w : World) (b : Nat) (es : List En) (k : ByteArray) (v : Value) : World := { w with heap := w.heap.setIfInBounds b (.map (ents (es ++ [(k, v)]) 0).toArray (es.length + 1)) }
theorem run_put_at (ht : P.underlying t = some (.map kt et)) (hk : P.underlying kt = some .string) (h : MAt w b es) (k : ByteArray) (v : Value) (hn : look es k = none) :
    (Instr.mapUpdate t (.map (some b)) (.string k) v).run P w = .ok () (putMap w b es k v) := by
  unfold MAt at h
  obtain ⟨r, h1, h2⟩ := findNow_ents k es 0 0
  rw [hn] at h2
  have hr : r = none := by cases r with | none => rfl | some x => simp at h2
  subst hr
  have hf := run_findKey (P := P) (w := w) hk h1
  have hc := run_checkKey (P := P) (w := w) hk (isKey_str k) false 9999
  have he := ents_app es 0 (k, v)
  simp only [Nat.zero_add] at he
  unfold Instr.mapUpdate putMap
  rw [Sem.run_bind, run_underlying ht]
  simp only [Result.andThen_ok, Sem.run_bind, Go.MapKept.run_getObj_map h, hc, hf, run_setObj_map _ h, ← he]
  simp
theorem putMap_at (h : MAt w b es) (k : ByteArray) (v : Value) : MAt (putMap w b es k v) b (es ++ [(k, v)]) := by
  unfold MAt putMap
  rw [(heap_set (w := w) h).1]
  simp
theorem putMap_grown (h : MAt w b es) (k : ByteArray) (v : Value) : w.grownBy (putMap w b es k v) (some b) := by
  refine ⟨rfl, rfl, rfl, by simp [putMap], fun g hg hne => ?_⟩
  exact (heap_set (w := w) h).2 g (by rintro rfl; exact hne rfl)
theorem putMap_size (k : ByteArray) (v : Value) : (putMap w b es k v).heap.size = w.heap.size := by simp [putMap]
end
section
variable {P : Program} (w : World) {ops : Array Oper} {rest : List Oper} {o : Oper} {a : Act} {Q : Exit → Act → World → Prop} {b : Nat} {es : List En} {t kt et : TypeId}
theorem wpList_look (hg : o.guard = none) (m x : Operand) (t : TypeId) (hop : o.op = Op.lookup t m x true) (kt et : TypeId) (ht : P.underlying t = some (.map kt et)) (hk : P.underlying kt = some .string) (z : Value) (hz : (zeroValue et).run P w = .ok z w) (b : Nat) (es : List En)
    (hm : a.eval m = .map (some b)) (h : MAt w b es) (k : ByteArray) (hx : a.eval x = .string k) (r : Option Value) (hr : look es k = r)
    (hK : wpList P ops Q rest (a.put o.dst (.tuple #[r.getD z, .bool r.isSome])) w) : wpList P ops Q (o :: rest) a w := by
  refine wpList_plain hg fun K' hK' => ?_
  subst hr
  unfold Oper.wp
  simp [execOp, hop, hm, hx, run_lookup_at ht hk hz h, Result.andThen]
  exact hK' _ _ hK
theorem wpList_put (hg : o.guard = none) (m x y : Operand) (t : TypeId) (hop : o.op = Op.mapUpdate t m x y) (kt et : TypeId) (ht : P.underlying t = some (.map kt et)) (hk : P.underlying kt = some .string) (b : Nat) (es : List En)
    (hm : a.eval m = .map (some b)) (h : MAt w b es) (k : ByteArray) (hx : a.eval x = .string k) (v : Value) (hy : a.eval y = v) (hr : look es k = none)
    (hK : wpList P ops Q rest (a.put o.dst undef) (putMap w b es k v)) : wpList P ops Q (o :: rest) a w := by
  refine wpList_plain hg fun K' hK' => ?_
  unfold Oper.wp
  simp [execOp, hop, hm, hx, hy, run_put_at ht hk h k v hr, Result.andThen, Sem.run_bind]
  exact hK' _ _ hK
end
end Go.Proofs.YtbjmakigdglghaaGreatDoor.Dd
namespace Go.Proofs.YtbjmakigdglghaaGreatDoor.Dd
set_option linter.unusedVariables false
open Go.RowKit Go.MapKept
open Go.ChangeMaps (setBlock)
def ItAt (w : World) (r b n : Nat) (seen : Array Nat) : Prop := w.heap[r]? = some (.mapIter (some b) n seen n)
section
variable {P : Program} {w : World} {r b n : Nat} {es : List En} {seen : Array Nat}
theorem ItAt.lt (h : ItAt w r b n seen) : r < w.heap.size := by
  rcases Nat.lt_or_ge r w.heap.size with hlt | hge
  · exact hlt
  · unfold ItAt at h; rw [Array.getElem?_eq_none hge] at h; cases h
theorem ItAt.drewN (h : ItAt w r b n seen) (k : Nat) : ItAt (w.drewN k) r b n seen := h
theorem ItAt.alloc (h : ItAt w r b n seen) (o : Obj) : ItAt (w.alloc o) r b n seen := (Below.heap_alloc w o r h.lt).trans h
theorem ItAt.made (w : World) (b n : Nat) : ItAt (w.alloc (.mapIter (some b) n #[] n)) w.heap.size b n #[] := heap_alloc_new w _
theorem ItAt.grown {w' : World} {row : Option Nat} (h : ItAt w r b n seen) (hg : w.grownBy w' row) (hne : some r ≠ row) : ItAt w' r b n seen := (hg.block r h.lt hne).trans h
theorem MAt.grown {w' : World} {row : Option Nat} (h : MAt w b es) (hg : w.grownBy w' row) (hne : some b ≠ row) : MAt w' b es := (hg.block b h.lt hne).trans h
theorem ne_map_it (h : MAt w b es) (k : ItAt w r b n seen) : b ≠ r := by
  rintro rfl
  unfold MAt at h
  unfold ItAt at k
  rw [h] at k
  cases k
theorem ne_map_row {g t : Nat} {cs : Array Value} {q : Nat × Nat} (h : MAt w b es) (k : w.heap[g]? = some (.cells cs t q)) : b ≠ g := by
  rintro rfl
  unfold MAt at h
  rw [h] at k
  cases k
theorem ne_it_row {g t : Nat} {cs : Array Value} {q : Nat × Nat} (h : ItAt w r b n seen) (k : w.heap[g]? = some (.cells cs t q)) : r ≠ g := by
  rintro rfl
  unfold ItAt at h
  rw [h] at k
  cases k
theorem ents_born : ∀ (l : List En) (i : Nat), (ents l i).map (·.born) = List.range' i l.length
  | [], _ => rfl
  | e :: l, i => by simp [ents, ents_born l, List.range'_succ]
theorem run_range_at {t kt et : TypeId} (ht : P.underlying t = some (.map kt et)) (h : MAt w b es) :
    (Instr.range t (.map (some b))).run P w = .ok (.pointer (some ⟨w.heap.size, 0, none⟩)) (w.alloc (.mapIter (some b) es.length #[] es.length)) := by
  unfold MAt at h
  unfold Instr.range
  rw [Sem.run_bind, run_underlying ht]
  simp only [Result.andThen_ok, Sem.run_bind, Go.MapKept.run_getObj_map h, Sem.run_pure]
  first | rfl | simp [newObj, Result.andThen]
theorem mem_left {e : MapEntry} (he : e ∈ (leftOf (ents es 0).toArray seen).toList) : ∃ i, ∃ h : i < es.length, e = { key := .string es[i].1, val := es[i].2, born := i } ∧ i ∉ seen := by
  unfold leftOf at he
  simp only [Array.toList_filter, List.mem_filter] at he
  obtain ⟨h1, h2⟩ := he
  obtain ⟨i, hi, hx⟩ := List.getElem_of_mem h1
  simp only [ents_length] at hi
  have h3 := ents_get es 0 i
  rw [List.getElem?_eq_getElem (by simpa [ents_length] using hi), List.getElem?_eq_getElem hi] at h3
  simp only [Option.map_some, Option.some.injEq, Nat.zero_add] at h3
  have hx' : (ents es 0)[i]'(by simpa [ents_length] using hi) = e := by simpa using hx
  rw [h3] at hx'
  refine ⟨i, hi, hx'.symm, ?_⟩
  rw [← hx'] at h2
  simpa using h2
theorem left_none (h : (leftOf (ents es 0).toArray seen).size = 0) (i : Nat) (hi : i < es.length) : i ∈ seen := by
  unfold leftOf at h
  have h0 := Array.eq_empty_of_size_eq_zero h
  rw [Array.filter_eq_empty_iff] at h0
  have h3 := ents_get es 0 i
  rw [List.getElem?_eq_getElem (by simpa [ents_length] using hi), List.getElem?_eq_getElem hi] at h3
  simp only [Option.map_some, Option.some.injEq, Nat.zero_add] at h3
  have := h0 ((ents es 0)[i]'(by simpa [ents_length] using hi)) (by simp)
  rw [h3] at this
  simpa using this
end
section
variable {P : Program} (w : World) {ops : Array Oper} {rest : List Oper} {o : Oper} {a : Act} {Q : Exit → Act → World → Prop}
theorem wpList_range_at (hg : o.guard = none) (x : Operand) (t : TypeId) (hop : o.op = Op.range t x) (kt et : TypeId) (ht : P.underlying t = some (.map kt et)) (b : Nat) (es : List En)
    (hm : a.eval x = .map (some b)) (h : MAt w b es)
    (hK : wpList P ops Q rest (a.put o.dst (.pointer (some ⟨w.heap.size, 0, none⟩))) (w.alloc (.mapIter (some b) es.length #[] es.length))) : wpList P ops Q (o :: rest) a w := by
  refine wpList_plain hg fun K' hK' => ?_
  unfold Oper.wp
  simp [execOp, hop, hm, run_range_at ht h, Result.andThen]
  exact hK' _ _ hK
theorem wpList_next_at (hg : o.guard = none) (it : Operand) (hop : o.op = Op.next it false) (r b : Nat) (es : List En) (seen : Array Nat)
    (hit : a.eval it = .pointer (some ⟨r, 0, none⟩)) (hm : MAt w b es) (hi : ItAt w r b es.length seen)
    (hDone : (∀ i, i < es.length → i ∈ seen) → wpList P ops Q rest (a.put o.dst (.tuple #[.bool false])) w)
    (hMore : ∀ (i : Nat) (h : i < es.length) (w' : World), i ∉ seen → ItAt w' r b es.length (seen.push i) → MAt w' b es → w.grownBy w' (some r) → w'.heap.size = w.heap.size →
      (Instr.entry (.pointer (some ⟨r, 0, none⟩))).run P w' = .ok (.tuple #[.string es[i].1, es[i].2]) w' → wpList P ops Q rest (a.put o.dst (.tuple #[.bool true, .string es[i].1, es[i].2])) w') :
    wpList P ops Q (o :: rest) a w := by
  have hne := ne_map_it hm hi
  have hb := hm
  have hr := hi
  unfold MAt at hb
  unfold ItAt at hr
  have hold : ∀ x ∈ (ents es 0).toArray.toList, x.born < es.length := by
    intro x hx
    have : x.born ∈ (ents es 0).map (·.born) := List.mem_map_of_mem (by simpa using hx)
    rw [ents_born] at this
    simp at this
    exact this
  refine wpList_plain hg fun K' hK' => ?_
  unfold Oper.wp
  rcases run_next_at (P := P) w o.type r b es.length es.length seen _ _ hr hb hold (Nat.le_refl _) with ⟨h0, hrun⟩ | ⟨e, he, w1, hw1, hrun⟩
  · simp [execOp, hop, hit, hrun, Result.andThen]
    exact hK' _ _ (hDone fun i hi => left_none h0 i hi)
  · obtain ⟨i, hlt, rfl, hns⟩ := mem_left he
    simp [execOp, hop, hit, hrun, Result.andThen]
    have hwh : w1.heap = w.heap := by rcases hw1 with rfl | rfl <;> rfl
    have hbl : ∀ g : Nat, w1.heap[g]? = w.heap[g]? := fun g => by rw [hwh]
    have hsz : w1.heap.size = w.heap.size := by rcases hw1 with rfl | rfl <;> rfl
    have hr2 : (setBlock w1 r (.mapIter (some b) es.length (seen.push i) es.length)).heap[r]? = some (.mapIter (some b) es.length (seen.push i) es.length) := by
      have : r < w1.heap.size := by rw [hsz]; exact hi.lt
      simp [setBlock, this]
    have hb2 : ∀ g : Nat, g ≠ r → (setBlock w1 r (.mapIter (some b) es.length (seen.push i) es.length)).heap[g]? = w.heap[g]? := by
      intro g hg
      rw [← hbl g]
      simp [setBlock, Array.getElem?_setIfInBounds, Ne.symm hg]
    refine hK' _ _ (hMore i hlt _ hns hr2 ((hb2 b hne).trans hb) ⟨?_, ?_, ?_, by simp [setBlock, hsz], fun g _ hg => hb2 g (by rintro rfl; exact hg rfl)⟩ (by simp [setBlock, hsz]) ?_)
    · rcases hw1 with rfl | rfl <;> rfl
    · rcases hw1 with rfl | rfl <;> rfl
    · rcases hw1 with rfl | rfl <;> rfl
    · refine run_entry_at (P := P) _ r b es.length seen _ _ { key := .string es[i].1, val := es[i].2, born := i } hr2 ((hb2 b hne).trans hb) ?_ ?_
      · have h3 := ents_get es 0 i
        rw [List.getElem?_eq_getElem hlt] at h3
        have := List.mem_of_getElem? h3
        simpa using this
      · simp only [ents_born]
        exact List.nodup_range' _ (by omega)
end
end Go.Proofs.YtbjmakigdglghaaGreatDoor.Dd
namespace Go.Proofs.YtbjmakigdglghaaGreatDoor.Dd
set_option linter.unusedVariables false
open Go.RowKit
def fnd {α : Type} (key : α → ByteArray) (l : List α) (k : ByteArray) : Option α := l.find? fun x => decide (key x = k)
structure Firsts {α : Type} (R : α → List Value → Prop) (key : α → ByteArray) (es : List En) (l : List α) : Prop where
  nodup : (es.map (·.1)).Nodup
  len : es.length ≤ l.length
  none_ : ∀ k, fnd key l k = none → look es k = none
  some_ : ∀ k x, fnd key l k = some x → ∃ cs, look es k = some (.agg cs.toArray) ∧ R x cs
section
variable {α : Type} {R : α → List Value → Prop} {key : α → ByteArray} {es : List En} {l : List α}
theorem look_none_iff (es : List En) (k : ByteArray) : look es k = none ↔ k ∉ es.map (·.1) := by
  unfold look
  simp only [Option.map_eq_none_iff, List.find?_eq_none, decide_eq_true_eq, List.mem_map, not_exists, not_and]
theorem look_app (es : List En) (e : En) (k : ByteArray) : look (es ++ [e]) k = (look es k).or (if e.1 = k then some e.2 else none) := by
  unfold look
  rw [List.find?_append]
  cases h : es.find? (fun e => decide (e.1 = k)) with
  | some x => simp
  | none =>
    by_cases he : e.1 = k <;> simp [he]
theorem fnd_app (x : α) (k : ByteArray) : fnd key (l ++ [x]) k = (fnd key l k).or (if key x = k then some x else none) := by
  unfold fnd
  rw [List.find?_append]
  cases h : l.find? (fun e => decide (key e = k)) with
  | some x => simp
  | none =>
    by_cases he : key x = k <;> simp [he]
theorem Firsts.nil : Firsts R key [] [] := ⟨by simp, by simp, fun _ _ => rfl, fun k x h => by simp [fnd] at h⟩
theorem Firsts.old (h : Firsts R key es l) {x : α} {v : Value} (hx : look es (key x) = some v) : Firsts R key es (l ++ [x]) := by
  have hf : ∀ k, fnd key (l ++ [x]) k = fnd key l k := by
    intro k
    rw [fnd_app]
    by_cases hk : key x = k
    · subst hk
      cases hy : fnd key l (key x) with
      | none => rw [h.none_ _ hy] at hx; cases hx
      | some y => simp
    · simp [hk]
  exact ⟨h.nodup, by have := h.len; simp; omega, fun k hk => h.none_ k (by rw [← hf]; exact hk), fun k y hk => h.some_ k y (by rw [← hf]; exact hk)⟩
theorem Firsts.new (h : Firsts R key es l) {x : α} {cs : List Value} (hx : look es (key x) = none) (hR : R x cs) : Firsts R key (es ++ [(key x, .agg cs.toArray)]) (l ++ [x]) := by
  have hn : fnd key l (key x) = none := by
    cases hy : fnd key l (key x) with
    | none => rfl
    | some y =>
      obtain ⟨_, h1, _⟩ := h.some_ _ _ hy
      rw [h1] at hx; cases hx
  refine ⟨?_, by have := h.len; simp; omega, fun k hk => ?_, fun k y hk => ?_⟩
  · rw [List.map_append, List.nodup_append]
    refine ⟨h.nodup, by simp, fun a ha b hb => ?_⟩
    simp at hb
    subst hb
    rintro rfl
    exact (look_none_iff es _).1 hx ha
  · rw [fnd_app] at hk
    rw [look_app]
    by_cases he : key x = k
    · simp [he] at hk
    · simp only [he, if_false, Option.or_none] at hk ⊢
      exact h.none_ k hk
  · rw [fnd_app] at hk
    rw [look_app]
    by_cases he : key x = k
    · subst he
      rw [hn] at hk
      rw [hx]
      simp at hk ⊢
      subst hk
      exact hR
    · simp only [he, if_false, Option.or_none] at hk ⊢
      exact h.some_ k y hk
theorem Firsts.mem (h : Firsts R key es l) (k : ByteArray) : k ∈ es.map (·.1) ↔ k ∈ l.map key := by
  constructor
  · intro hk
    cases hf : fnd key l k with
    | none => exact absurd hk ((look_none_iff es k).1 (h.none_ k hf))
    | some x =>
      unfold fnd at hf
      have := List.mem_of_find?_eq_some hf
      have h2 := List.find?_some hf
      simp at h2
      exact List.mem_map.2 ⟨x, this, h2⟩
  · intro hk
    obtain ⟨x, hx, rfl⟩ := List.mem_map.1 hk
    cases hf : fnd key l (key x) with
    | none =>
      unfold fnd at hf
      rw [List.find?_eq_none] at hf
      have := hf x hx
      simp at this
    | some y =>
      obtain ⟨cs, h1, _⟩ := h.some_ _ _ hf
      rcases Classical.em (key x ∈ es.map (·.1)) with hm | hm
      · exact hm
      · rw [(look_none_iff es _).2 hm] at h1; cases h1
theorem Firsts.shape (h : Firsts R key es l) {k : ByteArray} {v : Value} (hv : look es k = some v) : ∃ y cs, v = .agg cs.toArray ∧ R y cs := by
  cases hf : fnd key l k with
  | none => rw [h.none_ k hf] at hv; cases hv
  | some y =>
    obtain ⟨cs, h1, h2⟩ := h.some_ k y hf
    rw [h1] at hv
    injection hv with hv
    exact ⟨y, cs, hv.symm, h2⟩
end
end Go.Proofs.YtbjmakigdglghaaGreatDoor.Dd
namespace Go.Proofs.YtbjmakigdglghaaGreatDoor.Dd
set_option linter.unusedVariables false
open Go.RowKit
attribute [local go_sem ↓] Go.wp_at_zero Go.wp_at_succ
theorem put_step {B : Nat} {w wr : World} {es : List En} (hbel : Below B w wr) (hM : MAt wr B es) (hsz : B < wr.heap.size) (o1 o2 o3 o4 : Obj) (s : ByteArray) (v : Value) :
    Below B w (putMap ((((wr.alloc o1).alloc o2).alloc o3).alloc o4).drew B es s v) ∧ B < (putMap ((((wr.alloc o1).alloc o2).alloc o3).alloc o4).drew B es s v).heap.size ∧ MAt (putMap ((((wr.alloc o1).alloc o2).alloc o3).alloc o4).drew B es s v) B (es ++ [(s, v)]) := by
  have hM4 : MAt ((((wr.alloc o1).alloc o2).alloc o3).alloc o4).drew B es := MAt.drewN ((((hM.alloc o1).alloc o2).alloc o3).alloc o4) 1
  have hb4 : Below B w ((((wr.alloc o1).alloc o2).alloc o3).alloc o4).drew := bel_drewN ((((hbel.alloc (by omega) o1).alloc (by simp; omega) o2).alloc (by simp; omega) o3).alloc (by simp; omega) o4) 1
  have hs : B < ((((wr.alloc o1).alloc o2).alloc o3).alloc o4).drew.heap.size := by simp; omega
  exact ⟨hb4.grown (putMap_grown hM4 _ _) (by omega) (fun j hj => by cases hj; exact Nat.le_refl _), by rw [putMap_size]; exact hs, putMap_at hM4 _ _⟩
theorem CR_head {w : World} {B : Nat} {x : C} {cs : List Value} (h : CR w B x cs) : ∃ e1 e2 e3 e4 e5 a6 n6 m6 a7 n7 m7 e8 e9 a10 n10 m10, cs = [.string x.n, .int .i64 e1, .int .i64 e2, .int .i64 e3, .int .i64 e4, .string e5, .slice a6 n6 m6, .slice a7 n7 m7, .int .i64 e8, .int .i64 e9, .slice a10 n10 m10] := by
  unfold CR at h
  obtain ⟨vs, A, c, rfl, hv, _⟩ := h
  obtain ⟨_, _, _, _, _, _, _, _, _, rfl⟩ := hv.form
  exact ⟨_, _, _, _, _, _, _, _, _, _, _, _, _, _, _, _, rfl⟩
theorem Lst.cat {w w0 : World} {B B0 : Nat} {A : Option Addr} {l : List C} {k : Nat} (h : Lst 11 (CR w0 B0) w B A l) (hk : k < l.length) :
    ∃ b off e1 e2 e3 e4 e5 a6 n6 m6 a7 n7 m7 e8 e9 a10 n10 m10, A = some ⟨b, off, none⟩ ∧ b < B ∧ CR w0 B0 l[k] [.string l[k].n, .int .i64 e1, .int .i64 e2, .int .i64 e3, .int .i64 e4, .string e5, .slice a6 n6 m6, .slice a7 n7 m7, .int .i64 e8, .int .i64 e9, .slice a10 n10 m10] ∧ w.cell? ⟨b, off + k * 11, none⟩ = some (.string l[k].n) ∧ w.cell? ⟨b, off + k * 11 + 1, none⟩ = some (.int .i64 e1) ∧ w.cell? ⟨b, off + k * 11 + 2, none⟩ = some (.int .i64 e2) ∧ w.cell? ⟨b, off + k * 11 + 3, none⟩ = some (.int .i64 e3) ∧ w.cell? ⟨b, off + k * 11 + 4, none⟩ = some (.int .i64 e4) ∧ w.cell? ⟨b, off + k * 11 + 5, none⟩ = some (.string e5) ∧ w.cell? ⟨b, off + k * 11 + 6, none⟩ = some (.slice a6 n6 m6) ∧ w.cell? ⟨b, off + k * 11 + 7, none⟩ = some (.slice a7 n7 m7) ∧ w.cell? ⟨b, off + k * 11 + 8, none⟩ = some (.int .i64 e8) ∧ w.cell? ⟨b, off + k * 11 + 9, none⟩ = some (.int .i64 e9) ∧ w.cell? ⟨b, off + k * 11 + 10, none⟩ = some (.slice a10 n10 m10) := by
  obtain ⟨b, off, e, hb, hc⟩ := h.2 (by omega)
  obtain ⟨cs, h1, h2, h3⟩ := hc k hk
  obtain ⟨e1, e2, e3, e4, e5, a6, n6, m6, a7, n7, m7, e8, e9, a10, n10, m10, rfl⟩ := CR_head h3
  exact ⟨b, off, e1, e2, e3, e4, e5, a6, n6, m6, a7, n7, m7, e8, e9, a10, n10, m10, e, hb, h3, h2 0 _ rfl, h2 1 _ rfl, h2 2 _ rfl, h2 3 _ rfl, h2 4 _ rfl, h2 5 _ rfl, h2 6 _ rfl, h2 7 _ rfl, h2 8 _ rfl, h2 9 _ rfl, h2 10 _ rfl⟩
theorem name_C (s : ByteArray) (e1 : Int) (e2 : Int) (e3 : Int) (e4 : Int) (e5 : ByteArray) (a6 : Option Addr) (n6 : Nat) (m6 : Nat) (a7 : Option Addr) (n7 : Nat) (m7 : Nat) (e8 : Int) (e9 : Int) (a10 : Option Addr) (n10 : Nat) (m10 : Nat) (w : World) : Calls Tryz.prog 27 #[.agg #[.string s, .int .i64 e1, .int .i64 e2, .int .i64 e3, .int .i64 e4, .string e5, .slice a6 n6 m6, .slice a7 n7 m7, .int .i64 e8, .int .i64 e9, .slice a10 n10 m10]] w fun e w' => e = .returned (.string s) ∧ w.alloc (.cells #[.string s, .int .i64 e1, .int .i64 e2, .int .i64 e3, .int .i64 e4, .string e5, .slice a6 n6 m6, .slice a7 n7 m7, .int .i64 e8, .int .i64 e9, .slice a10 n10 m10] 70) = w' := by
  go_enter Tryz.func27, Tryz.ntmps27
  go_wp2
  go_ret
  exact ⟨rfl, rfl⟩
def zC : Value := .agg #[.string ⟨#[]⟩, .int .i64 0, .int .i64 0, .int .i64 0, .int .i64 0, .string ⟨#[]⟩, .slice none 0 0, .slice none 0 0, .int .i64 0, .int .i64 0, .slice none 0 0]
theorem zero_C (w : World) : (zeroValue 70).run Tryz.prog w = .ok zC w := by kernel_rfl
set_option maxRecDepth 100000 in
set_option maxHeartbeats 4000000 in
theorem firsts_C (w w0 : World) (B0 : Nat) (A : Option Addr) (n c : Nat) (l : List C) (hn : l.length = n) (h : Lst 11 (CR w0 B0) w w.heap.size A l) :
    Calls Tryz.prog 28 #[.slice A n c, .func (.func 27) #[] #[]] w fun e w' => e = .returned (.map (some w.heap.size)) ∧ Below w.heap.size w w' ∧ ∃ es, MAt w' w.heap.size es ∧ Firsts (CR w0 B0) (fun x : C => x.n) es l := by
  have hmax : n ≤ 1048576 := by rw [← hn]; exact h.1
  have hmm := @run_makeMap Tryz.prog
  have HN := Lib.hid hn
  have H := h
  clear hn h
  go_enter Tryz.func28, Tryz.ntmps28
  go_wp2
  clear hmm
  go_loopw [13] (fun v wr => ∃ k : Nat, k ≤ n ∧ v = .int .i64 k ∧ Below w.heap.size w wr ∧ w.heap.size < wr.heap.size ∧ ∃ es, MAt wr w.heap.size es ∧ Firsts (CR w0 B0) (fun x : C => x.n) es (l.take k)) (fun v _ => n - (intOf v).toNat)
  case atStart => exact ⟨0, Nat.zero_le _, rfl, (Below.refl _ _).alloc (Nat.le_refl _) _, by simp, [], MAt.made w, Firsts.nil⟩
  case round =>
    obtain ⟨k, hk, rfl, hbel, hsz, es, hM, hF⟩ := hrel
    have HF := Lib.hid hF
    clear hF
    by_cases hlt : k < n
    · have hkl : k < l.length := by have := HN.out; omega
      obtain ⟨b, off, e1, e2, e3, e4, e5, a6, n6, m6, a7, n7, m7, e8, e9, a10, n10, m10, rfl, hb, hR, q0, q1, q2, q3, q4, q5, q6, q7, q8, q9, q10⟩ := H.cat hkl
      have p0 := (hbel.cell (p := ⟨b, _, none⟩) hb).trans q0
      have p1 := (hbel.cell (p := ⟨b, _, none⟩) hb).trans q1
      have p2 := (hbel.cell (p := ⟨b, _, none⟩) hb).trans q2
      have p3 := (hbel.cell (p := ⟨b, _, none⟩) hb).trans q3
      have p4 := (hbel.cell (p := ⟨b, _, none⟩) hb).trans q4
      have p5 := (hbel.cell (p := ⟨b, _, none⟩) hb).trans q5
      have p6 := (hbel.cell (p := ⟨b, _, none⟩) hb).trans q6
      have p7 := (hbel.cell (p := ⟨b, _, none⟩) hb).trans q7
      have p8 := (hbel.cell (p := ⟨b, _, none⟩) hb).trans q8
      have p9 := (hbel.cell (p := ⟨b, _, none⟩) hb).trans q9
      have p10 := (hbel.cell (p := ⟨b, _, none⟩) hb).trans q10
      have hbb : b < wr.heap.size := by omega
      have HR := Lib.hid hR
      have hts : l.take (k + 1) = l.take k ++ [l[k]] := by rw [List.take_succ_eq_append_getElem hkl]
      obtain ⟨x, hx⟩ : ∃ x, l[k] = x := ⟨_, rfl⟩
      rw [hx] at hts HR p0
      obtain ⟨s, hs⟩ : ∃ s, x.n = s := ⟨_, rfl⟩
      rw [hs] at p0 HR
      have HS := Lib.hid hs
      have HT := Lib.hid hts
      clear hR hx hs hts H q0 q1 q2 q3 q4 q5 q6 q7 q8 q9 q10
      have hput : ∀ o1 o2 o3 o4 : Obj, look es s = none → (Instr.mapUpdate 79 (.map (some w.heap.size)) (.string s) (.agg #[.string s, .int .i64 e1, .int .i64 e2, .int .i64 e3, .int .i64 e4, .string e5, .slice a6 n6 m6, .slice a7 n7 m7, .int .i64 e8, .int .i64 e9, .slice a10 n10 m10])).run Tryz.prog ((((wr.alloc o1).alloc o2).alloc o3).alloc o4).drew = .ok () (putMap ((((wr.alloc o1).alloc o2).alloc o3).alloc o4).drew w.heap.size es s (.agg #[.string s, .int .i64 e1, .int .i64 e2, .int .i64 e3, .int .i64 e4, .string e5, .slice a6 n6 m6, .slice a7 n7 m7, .int .i64 e8, .int .i64 e9, .slice a10 n10 m10])) :=
        fun o1 o2 o3 o4 hl => run_put_at Tryz.underlying79 Tryz.underlying9 (MAt.drewN ((((hM.alloc _).alloc _).alloc _).alloc _) 1) s _ hl
      have HP := Lib.hid hput
      clear hput
      cases hl : look es s with
      | some v =>
        obtain ⟨y, cs', rfl, hy⟩ := HF.out.shape hl
        obtain ⟨ee1, ee2, ee3, ee4, ee5, aa6, nn6, mm6, aa7, nn7, mm7, ee8, ee9, aa10, nn10, mm10, rfl⟩ := CR_head hy
        obtain ⟨ss, hss⟩ : ∃ ss, y.n = ss := ⟨_, rfl⟩
        rw [hss] at hl
        have HL := Lib.hid hl
        clear hl hy hss
        go_wp2_with (first
          | (go_at_call 27; refine (name_C _ _ _ _ _ _ _ _ _ _ _ _ _ _ _ _ _ _).mono ?_; rintro e w' ⟨rfl, rfl⟩)
          | (at_lookup; refine wpList_look _ rfl _ _ 79 rfl 9 70 Tryz.underlying79 Tryz.underlying9 zC (zero_C _) w.heap.size es rfl ((hM.alloc _).alloc _) s rfl (some _) HL.out ?_; simp only [Option.getD_some, Option.isSome_some]))
        go_roundw
        case rel => exact ⟨k + 1, by omega, by go_num, ((hbel.alloc (by omega) _).alloc (by simp; omega) _).alloc (by simp; omega) _, by simp; omega, es, ((hM.alloc _).alloc _).alloc _, by rw [HT.out]; exact HF.out.old (x := x) (by rw [HS.out]; exact HL.out)⟩
        case measure => simp [intOf]; omega
      | none =>
        have HL := Lib.hid hl
        have hput := fun o1 o2 o3 o4 => HP.out o1 o2 o3 o4 hl
        clear hl
        go_wp2_with (first
          | (go_at_call 27; refine (name_C _ _ _ _ _ _ _ _ _ _ _ _ _ _ _ _ _ _).mono ?_; rintro e w' ⟨rfl, rfl⟩)
          | (at_lookup; refine wpList_look _ rfl _ _ 79 rfl 9 70 Tryz.underlying79 Tryz.underlying9 zC (zero_C _) w.heap.size es rfl ((hM.alloc _).alloc _) s rfl none HL.out ?_; simp only [Option.getD_none, Option.isSome_none, zC]))
        go_region_with (go_at_call 27; refine (name_C _ _ _ _ _ _ _ _ _ _ _ _ _ _ _ _ _ _).mono ?_; rintro e w' ⟨rfl, rfl⟩)
        all_goals
          go_wp2
          go_roundw
          case rel =>
            refine ⟨k + 1, by omega, by go_num, (put_step hbel hM hsz _ _ _ _ _ _).1, (put_step hbel hM hsz _ _ _ _ _ _).2.1, _, (put_step hbel hM hsz _ _ _ _ _ _).2.2, ?_⟩
            rw [HT.out]
            have := HF.out.new (x := x) (cs := [.string s, .int .i64 e1, .int .i64 e2, .int .i64 e3, .int .i64 e4, .string e5, .slice a6 n6 m6, .slice a7 n7 m7, .int .i64 e8, .int .i64 e9, .slice a10 n10 m10]) (by rw [HS.out]; exact HL.out) HR.out
            rw [HS.out] at this
            exact this
          case measure => simp [intOf]; omega
    · obtain rfl : k = n := by omega
      have hF : Firsts (CR w0 B0) (fun x : C => x.n) es l := by
        have := HF.out
        rwa [List.take_of_length_le (by have := HN.out; omega)] at this
      go_wp2
      go_ret
      exact ⟨rfl, hbel, es, hM, hF⟩
theorem IR_head {w : World} {B : Nat} {x : I} {cs : List Value} (h : IR w B x cs) : ∃ e1 e3 e4 e5 a6 n6 m6 a7 n7 m7, cs = [.string x.k, .int .i64 e1, .int .i64 e3, .int .i64 e4, .string e5, .slice a6 n6 m6, .slice a7 n7 m7] := by
  unfold IR at h
  obtain ⟨vs, rfl, hv⟩ := h
  obtain ⟨_, _, _, _, _, _, _, _, _, rfl⟩ := hv.form
  exact ⟨_, _, _, _, _, _, _, _, _, _, rfl⟩
theorem Lst.iat {w w0 : World} {B B0 : Nat} {A : Option Addr} {l : List I} {k : Nat} (h : Lst 7 (IR w0 B0) w B A l) (hk : k < l.length) :
    ∃ b off e1 e3 e4 e5 a6 n6 m6 a7 n7 m7, A = some ⟨b, off, none⟩ ∧ b < B ∧ IR w0 B0 l[k] [.string l[k].k, .int .i64 e1, .int .i64 e3, .int .i64 e4, .string e5, .slice a6 n6 m6, .slice a7 n7 m7] ∧ w.cell? ⟨b, off + k * 7, none⟩ = some (.string l[k].k) ∧ w.cell? ⟨b, off + k * 7 + 1, none⟩ = some (.int .i64 e1) ∧ w.cell? ⟨b, off + k * 7 + 2, none⟩ = some (.int .i64 e3) ∧ w.cell? ⟨b, off + k * 7 + 3, none⟩ = some (.int .i64 e4) ∧ w.cell? ⟨b, off + k * 7 + 4, none⟩ = some (.string e5) ∧ w.cell? ⟨b, off + k * 7 + 5, none⟩ = some (.slice a6 n6 m6) ∧ w.cell? ⟨b, off + k * 7 + 6, none⟩ = some (.slice a7 n7 m7) := by
  obtain ⟨b, off, e, hb, hc⟩ := h.2 (by omega)
  obtain ⟨cs, h1, h2, h3⟩ := hc k hk
  obtain ⟨e1, e3, e4, e5, a6, n6, m6, a7, n7, m7, rfl⟩ := IR_head h3
  exact ⟨b, off, e1, e3, e4, e5, a6, n6, m6, a7, n7, m7, e, hb, h3, h2 0 _ rfl, h2 1 _ rfl, h2 2 _ rfl, h2 3 _ rfl, h2 4 _ rfl, h2 5 _ rfl, h2 6 _ rfl⟩
theorem name_I (s : ByteArray) (e1 : Int) (e3 : Int) (e4 : Int) (e5 : ByteArray) (a6 : Option Addr) (n6 : Nat) (m6 : Nat) (a7 : Option Addr) (n7 : Nat) (m7 : Nat) (w : World) : Calls Tryz.prog 32 #[.agg #[.string s, .int .i64 e1, .int .i64 e3, .int .i64 e4, .string e5, .slice a6 n6 m6, .slice a7 n7 m7]] w fun e w' => e = .returned (.string s) ∧ w.alloc (.cells #[.string s, .int .i64 e1, .int .i64 e3, .int .i64 e4, .string e5, .slice a6 n6 m6, .slice a7 n7 m7] 75) = w' := by
  go_enter Tryz.func32, Tryz.ntmps32
  go_wp2
  go_ret
  exact ⟨rfl, rfl⟩
def zI : Value := .agg #[.string ⟨#[]⟩, .int .i64 0, .int .i64 0, .int .i64 0, .string ⟨#[]⟩, .slice none 0 0, .slice none 0 0]
theorem zero_I (w : World) : (zeroValue 75).run Tryz.prog w = .ok zI w := by kernel_rfl
set_option maxRecDepth 100000 in
set_option maxHeartbeats 4000000 in
theorem firsts_I (w w0 : World) (B0 : Nat) (A : Option Addr) (n c : Nat) (l : List I) (hn : l.length = n) (h : Lst 7 (IR w0 B0) w w.heap.size A l) :
    Calls Tryz.prog 33 #[.slice A n c, .func (.func 32) #[] #[]] w fun e w' => e = .returned (.map (some w.heap.size)) ∧ Below w.heap.size w w' ∧ ∃ es, MAt w' w.heap.size es ∧ Firsts (IR w0 B0) (fun x : I => x.k) es l := by
  have hmax : n ≤ 1048576 := by rw [← hn]; exact h.1
  have hmm := @run_makeMap Tryz.prog
  have HN := Lib.hid hn
  have H := h
  clear hn h
  go_enter Tryz.func33, Tryz.ntmps33
  go_wp2
  clear hmm
  go_loopw [13] (fun v wr => ∃ k : Nat, k ≤ n ∧ v = .int .i64 k ∧ Below w.heap.size w wr ∧ w.heap.size < wr.heap.size ∧ ∃ es, MAt wr w.heap.size es ∧ Firsts (IR w0 B0) (fun x : I => x.k) es (l.take k)) (fun v _ => n - (intOf v).toNat)
  case atStart => exact ⟨0, Nat.zero_le _, rfl, (Below.refl _ _).alloc (Nat.le_refl _) _, by simp, [], MAt.made w, Firsts.nil⟩
  case round =>
    obtain ⟨k, hk, rfl, hbel, hsz, es, hM, hF⟩ := hrel
    have HF := Lib.hid hF
    clear hF
    by_cases hlt : k < n
    · have hkl : k < l.length := by have := HN.out; omega
      obtain ⟨b, off, e1, e3, e4, e5, a6, n6, m6, a7, n7, m7, rfl, hb, hR, q0, q1, q2, q3, q4, q5, q6⟩ := H.iat hkl
      have p0 := (hbel.cell (p := ⟨b, _, none⟩) hb).trans q0
      have p1 := (hbel.cell (p := ⟨b, _, none⟩) hb).trans q1
      have p2 := (hbel.cell (p := ⟨b, _, none⟩) hb).trans q2
      have p3 := (hbel.cell (p := ⟨b, _, none⟩) hb).trans q3
      have p4 := (hbel.cell (p := ⟨b, _, none⟩) hb).trans q4
      have p5 := (hbel.cell (p := ⟨b, _, none⟩) hb).trans q5
      have p6 := (hbel.cell (p := ⟨b, _, none⟩) hb).trans q6
      have hbb : b < wr.heap.size := by omega
      have HR := Lib.hid hR
      have hts : l.take (k + 1) = l.take k ++ [l[k]] := by rw [List.take_succ_eq_append_getElem hkl]
      obtain ⟨x, hx⟩ : ∃ x, l[k] = x := ⟨_, rfl⟩
      rw [hx] at hts HR p0
      obtain ⟨s, hs⟩ : ∃ s, x.k = s := ⟨_, rfl⟩
      rw [hs] at p0 HR
      have HS := Lib.hid hs
      have HT := Lib.hid hts
      clear hR hx hs hts H q0 q1 q2 q3 q4 q5 q6
      have hput : ∀ o1 o2 o3 o4 : Obj, look es s = none → (Instr.mapUpdate 86 (.map (some w.heap.size)) (.string s) (.agg #[.string s, .int .i64 e1, .int .i64 e3, .int .i64 e4, .string e5, .slice a6 n6 m6, .slice a7 n7 m7])).run Tryz.prog ((((wr.alloc o1).alloc o2).alloc o3).alloc o4).drew = .ok () (putMap ((((wr.alloc o1).alloc o2).alloc o3).alloc o4).drew w.heap.size es s (.agg #[.string s, .int .i64 e1, .int .i64 e3, .int .i64 e4, .string e5, .slice a6 n6 m6, .slice a7 n7 m7])) :=
        fun o1 o2 o3 o4 hl => run_put_at Tryz.underlying86 Tryz.underlying9 (MAt.drewN ((((hM.alloc _).alloc _).alloc _).alloc _) 1) s _ hl
      have HP := Lib.hid hput
      clear hput
      cases hl : look es s with
      | some v =>
        obtain ⟨y, cs', rfl, hy⟩ := HF.out.shape hl
        obtain ⟨ee1, ee3, ee4, ee5, aa6, nn6, mm6, aa7, nn7, mm7, rfl⟩ := IR_head hy
        obtain ⟨ss, hss⟩ : ∃ ss, y.k = ss := ⟨_, rfl⟩
        rw [hss] at hl
        have HL := Lib.hid hl
        clear hl hy hss
        go_wp2_with (first
          | (go_at_call 32; refine (name_I _ _ _ _ _ _ _ _ _ _ _ _).mono ?_; rintro e w' ⟨rfl, rfl⟩)
          | (at_lookup; refine wpList_look _ rfl _ _ 86 rfl 9 75 Tryz.underlying86 Tryz.underlying9 zI (zero_I _) w.heap.size es rfl ((hM.alloc _).alloc _) s rfl (some _) HL.out ?_; simp only [Option.getD_some, Option.isSome_some]))
        go_roundw
        case rel => exact ⟨k + 1, by omega, by go_num, ((hbel.alloc (by omega) _).alloc (by simp; omega) _).alloc (by simp; omega) _, by simp; omega, es, ((hM.alloc _).alloc _).alloc _, by rw [HT.out]; exact HF.out.old (x := x) (by rw [HS.out]; exact HL.out)⟩
        case measure => simp [intOf]; omega
      | none =>
        have HL := Lib.hid hl
        have hput := fun o1 o2 o3 o4 => HP.out o1 o2 o3 o4 hl
        clear hl
        go_wp2_with (first
          | (go_at_call 32; refine (name_I _ _ _ _ _ _ _ _ _ _ _ _).mono ?_; rintro e w' ⟨rfl, rfl⟩)
          | (at_lookup; refine wpList_look _ rfl _ _ 86 rfl 9 75 Tryz.underlying86 Tryz.underlying9 zI (zero_I _) w.heap.size es rfl ((hM.alloc _).alloc _) s rfl none HL.out ?_; simp only [Option.getD_none, Option.isSome_none, zI]))
        go_region_with (go_at_call 32; refine (name_I _ _ _ _ _ _ _ _ _ _ _ _).mono ?_; rintro e w' ⟨rfl, rfl⟩)
        all_goals
          go_wp2
          go_roundw
          case rel =>
            refine ⟨k + 1, by omega, by go_num, (put_step hbel hM hsz _ _ _ _ _ _).1, (put_step hbel hM hsz _ _ _ _ _ _).2.1, _, (put_step hbel hM hsz _ _ _ _ _ _).2.2, ?_⟩
            rw [HT.out]
            have := HF.out.new (x := x) (cs := [.string s, .int .i64 e1, .int .i64 e3, .int .i64 e4, .string e5, .slice a6 n6 m6, .slice a7 n7 m7]) (by rw [HS.out]; exact HL.out) HR.out
            rw [HS.out] at this
            exact this
          case measure => simp [intOf]; omega
    · obtain rfl : k = n := by omega
      have hF : Firsts (IR w0 B0) (fun x : I => x.k) es l := by
        have := HF.out
        rwa [List.take_of_length_le (by have := HN.out; omega)] at this
      go_wp2
      go_ret
      exact ⟨rfl, hbel, es, hM, hF⟩
end Go.Proofs.YtbjmakigdglghaaGreatDoor.Dd
/-
  DERIVED: THE SHELF's CONTRACTS AT THIS DUMP, IN PLAIN WORDS (tools/lay-plain.mjs out of 'YtbjmakigdglghaaGreatDoorSh.lean', which tools/lay-shelf.mjs wrote): THE SAME DECLARATIONS UNDER THE SAME NAMES: 'import', 'namespace', 'open', 'def', 'theorem' AND NOTHING ELSE: no command of the shelf's: FOR A HAND-IN. Each laying: the table of numbers ('.._ren') and one theorem, a field a fact of the dump's own or the kernel's comparison; each contract: ONE APPLICATION.
-/
namespace Go.Proofs
open Go.Shelf
def Tryz.lays190_ren : Go.Shelf.Ren := ⟨fun | 190 => 67 | 125 => 109 | 258 => 108 | 128 => 162 | 129 => 163 | 302 => 153 | 303 => 154 | 304 => 155 | 305 => 156 | 306 => 157 | 307 => 158 | 308 => 159 | 309 => 160 | 310 => 161 | 333 => 194 | 329 => 195 | 330 => 196 | 334 => 197 | 335 => 198 | 336 => 199 | 344 => 221 | n => n, fun | 31 => 57 | 9 => 9 | 3 => 3 | 46 => 164 | 0 => 0 | 51 => 210 | 53 => 126 | 4 => 4 | 183 => 203 | 182 => 202 | 131 => 207 | 5 => 5 | 218 => 246 | 222 => 250 | 228 => 284 | 229 => 191 | n => n, fun | n => n⟩
theorem Tryz.lays190 : Go.Proofs.Lays.n190 Tryz.prog Tryz.lays190_ren := {
  mixed := by kernel_rfl
  f125 := Tryz.func109.trans (congrArg some (by kernel_rfl))
  f128 := Tryz.func162.trans (congrArg some (by kernel_rfl))
  f129 := Tryz.func163.trans (congrArg some (by kernel_rfl))
  f190 := Tryz.func67.trans (congrArg some (by kernel_rfl))
  f258 := Tryz.func108.trans (congrArg some (by kernel_rfl))
  f302 := Tryz.func153.trans (congrArg some (by kernel_rfl))
  f303 := Tryz.func154.trans (congrArg some (by kernel_rfl))
  f304 := Tryz.func155.trans (congrArg some (by kernel_rfl))
  f305 := Tryz.func156.trans (congrArg some (by kernel_rfl))
  f306 := Tryz.func157.trans (congrArg some (by kernel_rfl))
  f307 := Tryz.func158.trans (congrArg some (by kernel_rfl))
  f308 := Tryz.func159.trans (congrArg some (by kernel_rfl))
  f309 := Tryz.func160.trans (congrArg some (by kernel_rfl))
  f310 := Tryz.func161.trans (congrArg some (by kernel_rfl))
  f329 := Tryz.func195.trans (congrArg some (by kernel_rfl))
  f330 := Tryz.func196.trans (congrArg some (by kernel_rfl))
  f333 := Tryz.func194.trans (congrArg some (by kernel_rfl))
  f334 := Tryz.func197.trans (congrArg some (by kernel_rfl))
  f335 := Tryz.func198.trans (congrArg some (by kernel_rfl))
  f336 := Tryz.func199.trans (congrArg some (by kernel_rfl))
  f344 := Tryz.func221.trans (congrArg some (by kernel_rfl))
  t0 := Tryz.underlying0
  a0 := Tryz.isAgg0
  z0 := Tryz.sizeOf0
  v0 := Tryz.zeroValue0
  t3 := Tryz.underlying3
  a3 := Tryz.isAgg3
  z3 := Tryz.sizeOf3
  v3 := Tryz.zeroValue3
  t4 := Tryz.underlying4
  a4 := Tryz.isAgg4
  z4 := Tryz.sizeOf4
  v4 := Tryz.zeroValue4
  t5 := Tryz.underlying5
  a5 := Tryz.isAgg5
  z5 := Tryz.sizeOf5
  v5 := Tryz.zeroValue5
  t9 := Tryz.underlying9
  a9 := Tryz.isAgg9
  z9 := Tryz.sizeOf9
  v9 := Tryz.zeroValue9
  t31 := Tryz.underlying57
  a31 := Tryz.isAgg57
  z31 := Tryz.sizeOf57
  v31 := Tryz.zeroValue57
  t46 := Tryz.underlying164
  a46 := Tryz.isAgg164
  z46 := Tryz.sizeOf164
  v46 := Tryz.zeroValue164
  t51 := Tryz.underlying210
  a51 := Tryz.isAgg210
  z51 := Tryz.sizeOf210
  v51 := Tryz.zeroValue210
  t53 := Tryz.underlying126
  a53 := Tryz.isAgg126
  z53 := Tryz.sizeOf126
  v53 := Tryz.zeroValue126
  t131 := Tryz.underlying207
  a131 := Tryz.isAgg207
  z131 := Tryz.sizeOf207
  v131 := Tryz.zeroValue207
  t182 := Tryz.underlying202
  a182 := Tryz.isAgg202
  z182 := Tryz.sizeOf202
  v182 := Tryz.zeroValue202
  t183 := Tryz.underlying203
  a183 := Tryz.isAgg203
  z183 := Tryz.sizeOf203
  v183 := Tryz.zeroValue203
  t218 := Tryz.underlying246
  a218 := Tryz.isAgg246
  z218 := Tryz.sizeOf246
  v218 := Tryz.zeroValue246
  t222 := Tryz.underlying250
  a222 := Tryz.isAgg250
  z222 := Tryz.sizeOf250
  v222 := Tryz.zeroValue250
  t228 := Tryz.underlying284
  a228 := Tryz.isAgg284
  z228 := Tryz.sizeOf284
  v228 := Tryz.zeroValue284
  t229 := Tryz.underlying191
  a229 := Tryz.isAgg191
  z229 := Tryz.sizeOf191
  v229 := Tryz.zeroValue191 }
end Go.Proofs
