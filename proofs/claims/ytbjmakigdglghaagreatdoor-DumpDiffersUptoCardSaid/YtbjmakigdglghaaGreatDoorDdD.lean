/- What differs, as data; blocks that are held as they are. -/
import Derived.Test.YtbjmakigdglghaaGreatDoorDdC
import Derived.Test.YtbjmakigdglghaaGreatDoorDdB
import Derived.Deep.DeepCutAuto
set_option linter.unusedVariables false
set_option linter.unusedSimpArgs false
set_option linter.unusedSectionVars false
namespace Go.Proofs.YtbjmakigdglghaaGreatDoor.Dd
set_option linter.unusedVariables false
open Go.RowKit
def ub (l : List UInt8) : ByteArray := ⟨l.toArray⟩
theorem ub_bk (k : ByteArray) : ub (bk k) = k := by cases k; simp [ub, bk]
theorem bk_ub (l : List UInt8) : bk (ub l) = l := by simp [ub, bk]
theorem enc_ub (l : List UInt8) : encStr l = .string (ub l) := rfl
/-- the names, each once, rising -/
def uni (l : List ByteArray) : List (List UInt8) := ((l.map bk).eraseDups).mergeSort leB
theorem mem_uni (l : List ByteArray) (k : List UInt8) : k ∈ uni l ↔ k ∈ l.map bk := by
  unfold uni
  rw [(List.mergeSort_perm _ _).mem_iff, List.mem_eraseDups]
theorem nodup_eraseDups {α : Type} [BEq α] [LawfulBEq α] (l : List α) : l.eraseDups.Nodup := by
  have key : ∀ n (l : List α), l.length ≤ n → l.eraseDups.Nodup := by
    intro n
    induction n with
    | zero => intro l hl; cases l with | nil => simp | cons a l => simp at hl
    | succ n ih =>
      intro l hl
      cases l with
      | nil => simp
      | cons a l =>
        rw [List.eraseDups_cons, List.nodup_cons]
        refine ⟨?_, ih _ (Nat.le_trans (List.length_filter_le _ _) (by simpa using hl))⟩
        rw [List.mem_eraseDups]
        simp
  exact key _ l (Nat.le_refl _)
theorem leB_trans (a b c : List UInt8) (h : leB a b = true) (k : leB b c = true) : leB a c = true := by
  unfold leB at *
  simp only [decide_eq_true_eq] at *
  exact List.le_trans h k
theorem leB_total (a b : List UInt8) : (leB a b || leB b a) = true := by
  unfold leB
  simp only [Bool.or_eq_true, decide_eq_true_eq]
  exact List.le_total a b
theorem sort_of_perm {a b : List (List UInt8)} (h : a.Perm b) : a.mergeSort leB = b.mergeSort leB := mergeSort_of_perm h
theorem keysOf_eq {α : Type} {R R' : α → List Value → Prop} {key : α → ByteArray} {ea eb : List En} {la lb : List α} (hA : Firsts R key ea la) (hB : Firsts R' key eb lb) : keysOf ea eb = uni (la.map key ++ lb.map key) := by
  have hall : kl all ea = (ea.map (·.1)).map bk := by
    unfold kl all
    simp [List.filterMap_eq_map, Function.comp_def]
  have hfr : ∀ k, k ∈ kl (fresh ea) eb ↔ k ∈ (eb.map (·.1)).map bk ∧ k ∉ (ea.map (·.1)).map bk := by
    intro k
    unfold kl
    simp only [List.mem_filterMap, List.mem_map, Option.ite_none_right_eq_some, Option.some.injEq]
    constructor
    · rintro ⟨e, he, hf, rfl⟩
      refine ⟨⟨e.1, ⟨e, he, rfl⟩, rfl⟩, ?_⟩
      rintro ⟨x, hx, hxe⟩
      have hx' := bk_inj hxe
      subst hx'
      unfold fresh at hf
      rw [Option.isNone_iff_eq_none, look_none_iff] at hf
      exact hf (List.mem_map.2 hx)
    · rintro ⟨⟨x, ⟨e, he, rfl⟩, rfl⟩, hn⟩
      refine ⟨e, he, ?_, rfl⟩
      unfold fresh
      rw [Option.isNone_iff_eq_none, look_none_iff]
      intro hm
      exact hn ⟨e.1, List.mem_map.1 hm, rfl⟩
  have hinj : ∀ (l : List ByteArray), l.Nodup → (l.map bk).Nodup := fun l hl => by
    unfold List.Nodup at *
    rw [List.pairwise_map]
    exact hl.imp fun h e => h (bk_inj e)
  have hnd : (kl all ea ++ kl (fresh ea) eb).Nodup := by
    rw [List.nodup_append]
    refine ⟨by rw [hall]; exact hinj _ hA.nodup, ?_, ?_⟩
    · have hs : (kl (fresh ea) eb).Sublist ((eb.map (·.1)).map bk) := by
        unfold kl
        rw [List.map_map]
        have : ∀ l : List En, (l.filterMap fun e => if fresh ea e = true then some (bk e.1) else none).Sublist (l.map (bk ∘ fun x => x.1)) := by
          intro l
          induction l with
          | nil => simp
          | cons e l ih =>
            simp only [List.filterMap_cons, List.map_cons]
            split
            · exact ih.cons _
            · rename_i x hx
              split at hx
              · injection hx with hx
                subst hx
                exact ih.cons_cons _
              · cases hx
        exact this eb
      exact hs.nodup (hinj _ hB.nodup)
    · intro a ha b hb hab
      subst hab
      rw [hall] at ha
      exact ((hfr a).1 hb).2 ha
  unfold keysOf uni
  refine sort_of_perm ?_
  rw [List.perm_ext_iff_of_nodup hnd (nodup_eraseDups _)]
  intro k
  rw [List.mem_append, hall, hfr, List.mem_eraseDups, List.map_append, List.mem_append]
  have e1 : k ∈ (ea.map (·.1)).map bk ↔ k ∈ (la.map key).map bk := by
    simp only [List.mem_map (f := bk)]
    constructor <;> rintro ⟨x, hx, rfl⟩
    · exact ⟨x, (hA.mem x).1 hx, rfl⟩
    · exact ⟨x, (hA.mem x).2 hx, rfl⟩
  have e2 : k ∈ (eb.map (·.1)).map bk ↔ k ∈ (lb.map key).map bk := by
    simp only [List.mem_map (f := bk)]
    constructor <;> rintro ⟨x, hx, rfl⟩
    · exact ⟨x, (hB.mem x).1 hx, rfl⟩
    · exact ⟨x, (hB.mem x).2 hx, rfl⟩
  rw [e1, e2]
  generalize (k ∈ (la.map key).map bk) = p
  generalize (k ∈ (lb.map key).map bk) = q
  by_cases h : p <;> simp [h]
open Classical in
noncomputable def dC (a b : List C) (s : ByteArray) : Option D :=
  match fnd (fun x : C => x.n) a s, fnd (fun x : C => x.n) b s with
  | some x, some y => if x.m = y.m ∧ x.v = y.v then (if x.ss = y.ss then none else some ⟨2, s⟩) else some ⟨1, s⟩
  | _, _ => some ⟨1, s⟩
open Classical in
noncomputable def dI (a b : List I) (s : ByteArray) : Option D :=
  match fnd (fun x : I => x.k) a s, fnd (fun x : I => x.k) b s with
  | _, none => some ⟨3, s⟩
  | none, some _ => some ⟨4, s⟩
  | some x, some y => if x.v = y.v then none else some ⟨5, s⟩
/-- in what they differ -/
noncomputable def differ (a b : Sn) : List D :=
  ((uni (a.cs.map (·.n) ++ b.cs.map (·.n))).map ub).filterMap (dC a.cs b.cs) ++ ((uni (a.ds.map (·.k) ++ b.ds.map (·.k))).map ub).filterMap (dI a.ds b.ds)
/-- these blocks are as listed -/
def Hold (w : World) (L : List (Nat × Obj)) : Prop := ∀ p ∈ L, w.heap[p.1]? = some p.2
theorem lt_of_some {w : World} {g : Nat} {o : Obj} (h : w.heap[g]? = some o) : g < w.heap.size := (Array.getElem?_eq_some_iff.1 h).1
section
variable {w w' : World} {L : List (Nat × Obj)} {p : Nat × Obj}
theorem Hold.nil (w : World) : Hold w [] := fun _ h => by cases h
theorem Hold.cons (h : Hold w L) (hp : w.heap[p.1]? = some p.2) : Hold w (p :: L) := fun q hq => by
  rcases List.mem_cons.1 hq with rfl | hq
  · exact hp
  · exact h q hq
theorem Hold.head (h : Hold w (p :: L)) : w.heap[p.1]? = some p.2 := h p (by simp)
theorem Hold.tail (h : Hold w (p :: L)) : Hold w L := fun q hq => h q (List.mem_cons_of_mem _ hq)
theorem Hold.lt (h : Hold w L) (hp : p ∈ L) : p.1 < w.heap.size := lt_of_some (h p hp)
theorem Hold.alloc (h : Hold w L) (o : Obj) : Hold (w.alloc o) L := fun p hp => (Below.heap_alloc w o p.1 (h.lt hp)).trans (h p hp)
theorem Hold.drewN (h : Hold w L) (n : Nat) : Hold (w.drewN n) L := h
theorem Hold.drew (h : Hold w L) : Hold w.drew L := h
theorem Hold.below {B : Nat} (h : Hold w L) (hb : Below B w w') (hB : ∀ p ∈ L, p.1 < B) : Hold w' L := fun p hp => (hb.block p.1 (hB p hp)).trans (h p hp)
theorem Hold.next (h : Hold w L) (hb : Below w.heap.size w w') : Hold w' L := h.below hb fun p hp => h.lt hp
theorem Hold.grown {row : Option Nat} (h : Hold w L) (hg : w.grownBy w' row) (hne : ∀ p ∈ L, some p.1 ≠ row) : Hold w' L := fun p hp => (hg.block p.1 (h.lt hp) (hne p hp)).trans (h p hp)
theorem Hold.append {L' : List (Nat × Obj)} (h : Hold w L) (h' : Hold w L') : Hold w (L ++ L') := fun p hp => by
  rcases List.mem_append.1 hp with hp | hp
  · exact h p hp
  · exact h' p hp
end
def apart1 (e : TypeId) : Obj → Bool
  | .cells _ t _ => decide (t ≠ e)
  | _ => true
theorem own_apart {w : World} {L : List (Nat × Obj)} {base : Nat} {e : TypeId} {size n : Nat} {v : Value} {xs : List Value} (h : w.ownsRow base e size v n xs) (hL : Hold w L) (ha : L.all (fun p => apart1 e p.2) = true) : ∀ p ∈ L, some p.1 ≠ v.ownBlock := by
  intro p hp he
  rcases h.2 with ⟨rfl, _⟩ | ⟨g, cap, cur, rfl, _, hb, _⟩
  · simp [Value.ownBlock] at he
  · have hg : p.1 = g := by simpa [Value.ownBlock] using he
    have h1 := hL p hp
    rw [hg, hb] at h1
    have h2 := List.all_eq_true.1 ha p hp
    injection h1 with h1
    rw [← h1] at h2
    simp [apart1] at h2
end Go.Proofs.YtbjmakigdglghaaGreatDoor.Dd
namespace Go.Proofs.YtbjmakigdglghaaGreatDoor.Dd
set_option linter.unusedVariables false
open Go.RowKit
theorem bcell {w w' : World} {B : Nat} (h : Below B w w') : (∀ p : Addr, p.block < B → w'.cell? p = w.cell? p) ∧ (∀ p : Addr, p.block < B → w'.frozen? p = w.frozen? p) :=
  ⟨fun p hp => h.cell hp, fun p hp => World.frozen?_of_block (h.block p.block hp)⟩
theorem Lst.at_ {α : Type} {n : Nat} {R : α → List Value → Prop} {w W : World} {A : Option Addr} {l : List α} (h : Lst n R w w.heap.size A l) (hb : Below w.heap.size w W) : Lst n R W W.heap.size A l :=
  (h.keep (fun p hp => hb.cell hp) fun _ _ h => h).more hb.size
theorem bel_next {w W w' : World} (h : Below w.heap.size w W) (k : Below W.heap.size W w') : Below w.heap.size w w' :=
  ⟨k.os.trans h.os, k.tape.trans h.tape, k.output.trans h.output, Nat.le_trans h.size k.size, fun g hg => (k.block g (Nat.lt_of_lt_of_le hg h.size)).trans (h.block g hg)⟩
/-- behind the first two maps -/
def Df1 (w : World) (a b : Sn) (oa ob : Obj) (m1 m2 : Value) (wr : World) : Prop :=
  ∃ b1 b2 e1 e2, m1 = .map (some b1) ∧ m2 = .map (some b2) ∧ Below w.heap.size w wr ∧ w.heap.size ≤ b1 ∧ w.heap.size ≤ b2 ∧ MAt wr b1 e1 ∧ MAt wr b2 e2 ∧
    Firsts (CR w w.heap.size) (fun x : C => x.n) e1 a.cs ∧ Firsts (CR w w.heap.size) (fun x : C => x.n) e2 b.cs ∧
    wr.heap[w.heap.size]? = some oa ∧ wr.heap[w.heap.size + 1]? = some ob
end Go.Proofs.YtbjmakigdglghaaGreatDoor.Dd
namespace Go.Proofs.YtbjmakigdglghaaGreatDoor.Dd
set_option linter.unusedVariables false
open Go.RowKit
def dcells (l : List D) : List Value := l.flatMap fun d => [.int .i64 d.k, .string d.s]
theorem dcells_app (l : List D) (d : D) : dcells (l ++ [d]) = dcells l ++ [.int .i64 d.k, .string d.s] := by simp [dcells]
theorem dcells_len (l : List D) : (dcells l).length = l.length * 2 := by
  induction l with
  | nil => rfl
  | cons d l ih =>
    have : dcells (d :: l) = [.int .i64 d.k, .string d.s] ++ dcells l := by simp [dcells]
    rw [this, List.length_append, ih]; simp; omega
theorem info41 : (Tryz.prog.info? 41).map (fun i => (i.zero, i.size, i.bytes)) = some (some (.agg #[.int .i64 0, .string ⟨#[]⟩]), 2, 24) := by kernel_rfl
theorem news2 (w : World) (x y : Value) (t : TypeId) : ∀ j u, [x, y][j]? = some u → (w.alloc (.cells #[x, y] t)).cell? ((⟨w.heap.size, 0, none⟩ : Addr).add j) = some u := by
  intro j u hj
  rw [add_lit, Nat.zero_add]
  have h := (Blk.new w t #[x, y]).cell j
  rw [h]
  match j, hj with
  | 0, h => simpa using h
  | 1, h => simpa using h
theorem news2d (w : World) (x y : Value) (t : TypeId) (n : Nat) : ∀ j u, [x, y][j]? = some u → ((w.alloc (.cells #[x, y] t)).drewN n).cell? ((⟨w.heap.size, 0, none⟩ : Addr).add j) = some u := news2 w x y t
theorem news2c (w : World) (x y : Value) (t : TypeId) (o1 o2 : Obj) : ∀ j u, [x, y][j]? = some u → (((w.alloc o1).alloc o2).alloc (.cells #[x, y] t)).cell? ((⟨w.heap.size + 1 + 1, 0, none⟩ : Addr).add j) = some u := by
  have := news2 ((w.alloc o1).alloc o2) x y t
  simpa only [World.size_alloc] using this
section
variable {w : World} {B : Nat}
theorem CR.parts {x : C} {cs : List Value} (h : CR w B x cs) : ∃ c1 e1 e2 t An nn cn Ai ni ci a g A c, cs = [.string x.n, .int .i64 c1, .int .i64 x.m, .int .i64 e1, .int .i64 e2, .string t, .slice An nn cn, .slice Ai ni ci, .int .i64 a, .int .i64 g, .slice A x.ss.length c] ∧
    x.v.At w B [.int .i64 e1, .int .i64 e2, .string t, .slice An nn cn, .slice Ai ni ci] ∧ Lst 3 SR w B A x.ss := by
  obtain ⟨vs, A, c, rfl, hv, hs⟩ := h
  obtain ⟨e1, e2, t, An, nn, cn, Ai, ni, ci, rfl⟩ := hv.form
  exact ⟨x.c, e1, e2, t, An, nn, cn, Ai, ni, ci, x.a, x.g, A, c, rfl, hv, hs⟩
theorem IR.parts {x : I} {cs : List Value} (h : IR w B x cs) : ∃ v0 e1 e2 t An nn cn Ai ni ci, cs = [.string x.k, .int .i64 v0, .int .i64 e1, .int .i64 e2, .string t, .slice An nn cn, .slice Ai ni ci] ∧
    x.v.At w B [.int .i64 e1, .int .i64 e2, .string t, .slice An nn cn, .slice Ai ni ci] := by
  obtain ⟨vs, rfl, hv⟩ := h
  obtain ⟨e1, e2, t, An, nn, cn, Ai, ni, ci, rfl⟩ := hv.form
  exact ⟨x.n, e1, e2, t, An, nn, cn, Ai, ni, ci, rfl, hv⟩
end
/-- the gathered keys, as a slice whose block (if it has one) is in the list -/
def KeysIn (L : List (Nat × Obj)) (A : Option Addr) (n : Nat) (ks : List (List UInt8)) : Prop :=
  ks.length = n ∧ (0 < n → ∃ g cur, A = some ⟨g, 0, none⟩ ∧ (g, Obj.cells cur 9 (0, 0)) ∈ L ∧ cur.toList.take n = ks.map encStr)
theorem KeysIn.mono {L L' : List (Nat × Obj)} {A : Option Addr} {n : Nat} {ks : List (List UInt8)} (h : KeysIn L A n ks) (hL : ∀ p ∈ L, p ∈ L') : KeysIn L' A n ks :=
  ⟨h.1, fun hn => by obtain ⟨g, cur, h1, h2, h3⟩ := h.2 hn; exact ⟨g, cur, h1, hL _ h2, h3⟩⟩
theorem KeysIn.cell {w : World} {L : List (Nat × Obj)} {A : Option Addr} {n : Nat} {ks : List (List UInt8)} (h : KeysIn L A n ks) (hL : Hold w L) {k : Nat} (hk : k < n) :
    ∃ g, A = some ⟨g, 0, none⟩ ∧ g < w.heap.size ∧ ∃ hk' : k < ks.length, w.cell? ⟨g, k, none⟩ = some (.string (ub ks[k])) := by
  obtain ⟨h1, h2⟩ := h
  obtain ⟨g, cur, e, hm, hc⟩ := h2 (by omega)
  refine ⟨g, e, hL.lt hm, by omega, ?_⟩
  rw [cell_of_row w g k cur 9 (0, 0) (hL _ hm)]
  have h3 : (cur.toList.take n)[k]? = (ks.map encStr)[k]? := by rw [hc]
  rw [List.getElem?_take_of_lt hk] at h3
  have hk' : k < ks.length := by omega
  rw [← Array.getElem?_toList, h3, List.getElem?_map, List.getElem?_eq_getElem hk', Option.map_some, enc_ub]
theorem keys_in {w : World} {base : Nat} {v : Value} {ks : List (List UInt8)} (h : w.ownsRow base 9 1 v ks.length (ks.map encStr)) :
    ∃ A c L, v = .slice A ks.length c ∧ Hold w L ∧ KeysIn L A ks.length ks ∧ L.all (fun p => apart1 41 p.2) = true ∧ ∀ p ∈ L, base ≤ p.1 := by
  rcases h.2 with ⟨rfl, h0⟩ | ⟨g, cap, cur, rfl, hbase, hb, h1, h2, h3, h4⟩
  · exact ⟨none, 0, [], by rw [h0], Hold.nil w, ⟨rfl, fun hp => by omega⟩, rfl, fun p hp => by cases hp⟩
  · refine ⟨some ⟨g, 0, none⟩, cap, [(g, .cells cur 9 (0, 0))], rfl, (Hold.nil w).cons hb, ⟨rfl, fun _ => ⟨g, cur, rfl, by simp, by simpa using h4⟩⟩, by simp [apart1], fun p hp => ?_⟩
    simp at hp
    subst hp
    exact hbase
theorem take_filterMap {α β : Type} (f : α → Option β) (l : List α) {k : Nat} (hk : k < l.length) : (l.take (k + 1)).filterMap f = (l.take k).filterMap f ++ (f l[k]).toList := by
  rw [List.take_succ_eq_append_getElem hk, List.filterMap_append]
  cases h : f l[k] <;> simp [h]
theorem fnd_key {α : Type} {key : α → ByteArray} {l : List α} {k : ByteArray} {x : α} (h : fnd key l k = some x) : key x = k := by
  unfold fnd at h
  have := List.find?_some h
  simpa using this
theorem fnd_mem {α : Type} {key : α → ByteArray} {l : List α} {k : ByteArray} {x : α} (h : fnd key l k = some x) : x ∈ l := by
  unfold fnd at h
  exact List.mem_of_find?_eq_some h
theorem uni_len (l : List ByteArray) : (uni l).length ≤ l.length := by
  unfold uni
  rw [List.length_mergeSort]
  have h : ∀ n (l : List (List UInt8)), l.length ≤ n → l.eraseDups.length ≤ l.length := by
    intro n
    induction n with
    | zero => intro l hl; cases l with | nil => simp | cons a l => simp at hl
    | succ n ih =>
      intro l hl
      cases l with
      | nil => simp
      | cons a l =>
        rw [List.eraseDups_cons]
        have h1 := List.length_filter_le (fun b => !(b == a)) l
        have h2 := ih (l.filter fun b => !(b == a)) (by simp at hl; omega)
        simp only [List.length_cons]
        omega
  have := h _ (l.map bk) (Nat.le_refl _)
  simpa using this
/-- the state of the loops: what is held, and the row of differences -/
structure At5 (w wr : World) (L : List (Nat × Obj)) (v : Value) (ds : List D) : Prop where
  bel : Below w.heap.size w wr
  hold : Hold wr L
  size : w.heap.size < wr.heap.size
  own : wr.ownsRow w.heap.size 41 2 v ds.length (dcells ds)
section
variable {w wr w' : World} {L : List (Nat × Obj)} {v v' : Value} {ds : List D} {d : D}
theorem At5.alloc (h : At5 w wr L v ds) (o : Obj) : At5 w (wr.alloc o) L v ds :=
  ⟨h.bel.alloc (Nat.le_of_lt h.size) o, h.hold.alloc o, by have := h.size; simp; omega, h.own.alloc o⟩
theorem At5.drewN (h : At5 w wr L v ds) (n : Nat) : At5 w (wr.drewN n) L v ds := ⟨bel_drewN h.bel n, h.hold, h.size, h.own⟩
theorem At5.next (h : At5 w wr L v ds) (hb : Below wr.heap.size wr w') : At5 w w' L v ds :=
  ⟨bel_next h.bel hb, h.hold.next hb, Nat.lt_of_lt_of_le h.size hb.size, h.own.kept ⟨hb.os, hb.tape, hb.output, hb.size, fun k hk _ => hb.block k hk⟩ (row := none) (by cases v.ownBlock with | none => exact .inl rfl | some g => exact .inr (by simp))⟩
theorem At5.put (h : At5 w wr L v ds) (hL : L.all (fun p => apart1 41 p.2) = true) (hown' : w'.ownsRow w.heap.size 41 2 v' (ds.length + 1) (dcells ds ++ [.int .i64 d.k, .string d.s])) (hgrow : wr.grownBy w' v.ownBlock) : At5 w w' L v' (ds ++ [d]) := by
  refine ⟨h.bel.grown hgrow (Nat.le_of_lt h.size) (fun j hj => (h.own.lt j hj).1), h.hold.grown hgrow (own_apart h.own h.hold hL), Nat.lt_of_lt_of_le h.size hgrow.size, ?_⟩
  rw [dcells_app, List.length_append]
  exact hown'
end
/-- behind the second two maps -/
def Df2 (w : World) (a b : Sn) (L : List (Nat × Obj)) (v : Value) (ds : List D) (m1 m2 : Value) (wr : World) : Prop :=
  ∃ b1 b2 e1 e2, m1 = .map (some b1) ∧ m2 = .map (some b2) ∧ At5 w wr L v ds ∧ MAt wr b1 e1 ∧ MAt wr b2 e2 ∧
    Firsts (IR w w.heap.size) (fun x : I => x.k) e1 a.ds ∧ Firsts (IR w w.heap.size) (fun x : I => x.k) e2 b.ds
end Go.Proofs.YtbjmakigdglghaaGreatDoor.Dd
