/- Words for memory: a block known whole; lists of structs as they lie; values, collections, documents, snapshots as data. -/
import Derived.Test.YtbjmakigdglghaaGreatDoorProg
import Derived.WalkKit
import Derived.Below
import Derived.Laws.OwnMore
import Derived.Deep.AppendLies
import Derived.Deep.Draws
import Derived.Laws.Rows
import Derived.Maps.AppendAt
import Derived.RegionTactic
import Derived.OwnWalk
import Derived.Lib.Hide
import Derived.Deep.QuietTactic
import Derived.BigQuiet
import Derived.Laws.StructEq
import Derived.StillTailTactics
set_option linter.unusedVariables false
set_option linter.unusedSimpArgs false
set_option linter.unusedSectionVars false
namespace Go.Proofs.YtbjmakigdglghaaGreatDoor.Dd
open Go.RowKit
theorem block_of_add (a : Addr) (n : Nat) : (a.add n).block = a.block := by unfold Addr.add; split <;> rfl
theorem add_of_add (a : Addr) (i j : Nat) : (a.add i).add j = a.add (i + j) := by
  unfold Addr.add
  by_cases hi : i = 0 <;> by_cases hj : j = 0 <;> simp [hi, hj, Nat.add_assoc]
theorem add_lit (b off n : Nat) : (⟨b, off, none⟩ : Addr).add n = ⟨b, off + n, none⟩ := by
  unfold Addr.add
  split
  · rename_i e; subst e; rfl
  · rfl
def Blk (w : World) (g : Nat) (t : TypeId) (cs : Array Value) : Prop := w.heap[g]? = some (.cells cs t (0, 0))
section
variable {w w' : World} {g : Nat} {t : TypeId} {cs : Array Value}
theorem Blk.lt (h : Blk w g t cs) : g < w.heap.size := by
  rcases Nat.lt_or_ge g w.heap.size with hlt | hge
  · exact hlt
  · unfold Blk at h; rw [Array.getElem?_eq_none hge] at h; cases h
theorem Blk.cell (h : Blk w g t cs) (i : Nat) : w.cell? ⟨g, i, none⟩ = cs[i]? := cell_of_row w g i cs t (0, 0) h
theorem Blk.frozen (h : Blk w g t cs) (i : Nat) : w.frozen? ⟨g, i, none⟩ = false := by
  unfold Blk at h
  simp [World.frozen?, h]
theorem Blk.new (w : World) (t : TypeId) (cs : Array Value) : Blk (w.alloc (.cells cs t)) w.heap.size t cs := heap_alloc_new w _
theorem Blk.drew (h : Blk w g t cs) : Blk w.drew g t cs := h
theorem Blk.drewN (h : Blk w g t cs) (n : Nat) : Blk (w.drewN n) g t cs := h
theorem Blk.alloc (h : Blk w g t cs) (o : Obj) : Blk (w.alloc o) g t cs := (Below.heap_alloc w o g h.lt).trans h
theorem Blk.set_ (h : Blk w g t cs) (i : Nat) (u : Value) : Blk (w.setCell ⟨g, i, none⟩ u) g t (cs.setIfInBounds i u) := by
  unfold Blk at h ⊢
  simp [World.setCell, Array.getElem?_modify, h]
theorem Blk.far (h : Blk w g t cs) {p : Addr} (hp : g ≠ p.block) (u : Value) : Blk (w.setCell p u) g t cs := (Below.heap_setCell w p u g hp).trans h
theorem Blk.below {B : Nat} (h : Blk w g t cs) (hb : Below B w w') (hg : g < B) : Blk w' g t cs := (hb.block g hg).trans h
theorem Blk.grown {row : Option Nat} (h : Blk w g t cs) (hb : w.grownBy w' row) (hg : some g ≠ row) : Blk w' g t cs := (hb.block g h.lt hg).trans h
theorem Blk.ne_ {g' : Nat} {t' : TypeId} {cs' : Array Value} (h : Blk w g t cs) (h' : Blk w g' t' cs') (hne : t ≠ t') : g ≠ g' := by
  rintro rfl
  unfold Blk at h h'
  rw [h] at h'
  injection h' with h'
  injection h' with _ ht
  exact hne ht
theorem own_blk_ne {base : Nat} {e : TypeId} {size n : Nat} {v : Value} {xs : List Value} (h : w.ownsRow base e size v n xs) (hg : Blk w g t cs) (hne : e ≠ t) : v.ownBlock ≠ some g := by
  rcases h.2 with ⟨rfl, _⟩ | ⟨g', cap, cur, rfl, _, hh, _⟩
  · simp [Value.ownBlock]
  · intro he
    have : g' = g := by simpa [Value.ownBlock] using he
    subst this
    exact Blk.ne_ (t := e) hh hg hne rfl
end
/-- these cells lie there -/
def CellsAt (w : World) (b o : Nat) (cs : List Value) : Prop := ∀ j u, cs[j]? = some u → w.cell? ⟨b, o + j, none⟩ = some u
section
variable {w w' : World} {B B' b o n : Nat} {cs : List Value} {α : Type}
theorem CellsAt.keep (h : CellsAt w b o cs) (hb : b < B) (hk : ∀ p : Addr, p.block < B → w'.cell? p = w.cell? p) : CellsAt w' b o cs := fun j u hu => (hk ⟨b, o + j, none⟩ hb).trans (h j u hu)
theorem CellsAt.app {cs' : List Value} (h : CellsAt w b o cs) (h' : CellsAt w b (o + cs.length) cs') : CellsAt w b o (cs ++ cs') := by
  intro j u hu
  rcases Nat.lt_or_ge j cs.length with hj | hj
  · rw [List.getElem?_append_left hj] at hu
    exact h j u hu
  · rw [List.getElem?_append_right hj] at hu
    have := h' (j - cs.length) u hu
    rwa [show o + cs.length + (j - cs.length) = o + j by omega] at this
/-- a slice that reads as a list, below block B, each element n cells -/
def Lst (n : Nat) (R : α → List Value → Prop) (w : World) (B : Nat) (A : Option Addr) (l : List α) : Prop :=
  l.length ≤ 1048576 ∧ (0 < l.length → ∃ b off, A = some ⟨b, off, none⟩ ∧ b < B ∧ ∀ i (h : i < l.length), ∃ cs, cs.length = n ∧ CellsAt w b (off + i * n) cs ∧ R l[i] cs)
theorem Lst.nil {R : α → List Value → Prop} (A : Option Addr) : Lst n R w B A [] := ⟨by simp, fun h => by simp at h⟩
theorem Lst.keep {R R' : α → List Value → Prop} {A : Option Addr} {l : List α} (h : Lst n R w B A l) (hk : ∀ p : Addr, p.block < B → w'.cell? p = w.cell? p) (hR : ∀ x cs, R x cs → R' x cs) : Lst n R' w' B A l := by
  refine ⟨h.1, fun hl => ?_⟩
  obtain ⟨b, off, e, hb, hc⟩ := h.2 hl
  refine ⟨b, off, e, hb, fun i hi => ?_⟩
  obtain ⟨cs, h1, h2, h3⟩ := hc i hi
  exact ⟨cs, h1, h2.keep hb hk, hR _ _ h3⟩
theorem Lst.more {R : α → List Value → Prop} {A : Option Addr} {l : List α} (h : Lst n R w B A l) (hB : B ≤ B') : Lst n R w B' A l := ⟨h.1, fun hl => by
  obtain ⟨b, off, e, hb, hc⟩ := h.2 hl
  exact ⟨b, off, e, by omega, hc⟩⟩
theorem Lst.imp {R R' : α → List Value → Prop} {A : Option Addr} {l : List α} (h : Lst n R w B A l) (hR : ∀ x cs, R x cs → R' x cs) : Lst n R' w B A l := h.keep (fun _ _ => rfl) hR
end
/-- A value of the store, as data. -/
inductive V where
  | mk (k i : Int) (t : ByteArray) (ns : List ByteArray) (xs : List V)
def StrR (s : ByteArray) (cs : List Value) : Prop := cs = [.string s]
mutual
def V.At (w : World) (B : Nat) : V → List Value → Prop
  | .mk k i t ns xs, cs => ∃ An cn Ai ci, cs = [.int .i64 k, .int .i64 i, .string t, .slice An ns.length cn, .slice Ai xs.length ci] ∧ Lst 1 StrR w B An ns ∧
      xs.length ≤ 1048576 ∧ (0 < xs.length → ∃ b off, Ai = some ⟨b, off, none⟩ ∧ b < B ∧ V.Ats w B xs b off)
def V.Ats (w : World) (B : Nat) : List V → Nat → Nat → Prop
  | [], _, _ => True
  | x :: l, b, off => (∃ cs, cs.length = 5 ∧ CellsAt w b off cs ∧ V.At w B x cs) ∧ V.Ats w B l b (off + 5)
end
theorem V.ats_iff (w : World) (B b : Nat) : ∀ (l : List V) (off : Nat), V.Ats w B l b off ↔ ∀ i (h : i < l.length), ∃ cs, cs.length = 5 ∧ CellsAt w b (off + i * 5) cs ∧ V.At w B l[i] cs
  | [], off => by simp [V.Ats]
  | x :: l, off => by
    rw [V.Ats, V.ats_iff w B b l]
    constructor
    · rintro ⟨h0, h⟩ i hi
      cases i with
      | zero => simpa using h0
      | succ i =>
        obtain ⟨cs, h1, h2, h3⟩ := h i (by simpa using hi)
        exact ⟨cs, h1, by rw [show off + (i + 1) * 5 = off + 5 + i * 5 by omega]; exact h2, by simpa using h3⟩
    · intro h
      refine ⟨h 0 (by simp), fun i hi => ?_⟩
      obtain ⟨cs, h1, h2, h3⟩ := h (i + 1) (by simpa using hi)
      exact ⟨cs, h1, by rw [show off + 5 + i * 5 = off + (i + 1) * 5 by omega]; exact h2, by simpa using h3⟩
/-- A value's cells, opened. -/
theorem V.at_mk (w : World) (B : Nat) (k i : Int) (t : ByteArray) (ns : List ByteArray) (xs : List V) (cs : List Value) :
    V.At w B (.mk k i t ns xs) cs ↔ ∃ An cn Ai ci, cs = [.int .i64 k, .int .i64 i, .string t, .slice An ns.length cn, .slice Ai xs.length ci] ∧ Lst 1 StrR w B An ns ∧ Lst 5 (V.At w B) w B Ai xs := by
  rw [V.At]
  constructor
  · rintro ⟨An, cn, Ai, ci, h1, h2, h0, h3⟩
    refine ⟨An, cn, Ai, ci, h1, h2, h0, fun hl => ?_⟩
    obtain ⟨b, off, e, hb, h⟩ := h3 hl
    exact ⟨b, off, e, hb, (V.ats_iff w B b xs off).1 h⟩
  · rintro ⟨An, cn, Ai, ci, h1, h2, h3⟩
    refine ⟨An, cn, Ai, ci, h1, h2, h3.1, fun hl => ?_⟩
    obtain ⟨b, off, e, hb, h⟩ := h3.2 hl
    exact ⟨b, off, e, hb, (V.ats_iff w B b xs off).2 h⟩
theorem V.at_len {w : World} {B : Nat} {x : V} {cs : List Value} (h : V.At w B x cs) : cs.length = 5 := by
  cases x
  rw [V.at_mk] at h
  obtain ⟨_, _, _, _, rfl, _⟩ := h
  rfl
section
variable {w w' : World} {B B' : Nat}
mutual
theorem V.At.keep (hB : B ≤ B') (hk : ∀ p : Addr, p.block < B → w'.cell? p = w.cell? p) : ∀ {x : V} {cs : List Value}, V.At w B x cs → V.At w' B' x cs
  | .mk k i t ns xs, cs, h => by
    rw [V.At] at h ⊢
    obtain ⟨An, cn, Ai, ci, h1, h2, h0, h3⟩ := h
    refine ⟨An, cn, Ai, ci, h1, (h2.keep hk fun _ _ h => h).more hB, h0, fun hl => ?_⟩
    obtain ⟨b, off, e, hb, h⟩ := h3 hl
    exact ⟨b, off, e, by omega, V.Ats.keep hB hk hb h⟩
theorem V.Ats.keep (hB : B ≤ B') (hk : ∀ p : Addr, p.block < B → w'.cell? p = w.cell? p) {b : Nat} (hb : b < B) : ∀ {l : List V} {off : Nat}, V.Ats w B l b off → V.Ats w' B' l b off
  | [], _, _ => by rw [V.Ats]; trivial
  | x :: l, off, h => by
    rw [V.Ats] at h ⊢
    obtain ⟨⟨cs, h1, h2, h3⟩, h4⟩ := h
    exact ⟨⟨cs, h1, h2.keep hb hk, V.At.keep hB hk h3⟩, V.Ats.keep hB hk hb h4⟩
end
theorem V.At.below {x : V} {cs : List Value} (h : V.At w B x cs) (hb : Below B w w') : V.At w' B x cs := h.keep (Nat.le_refl _) fun _ hp => hb.cell hp
theorem V.At.more {x : V} {cs : List Value} (h : V.At w B x cs) (hB : B ≤ B') : V.At w B' x cs := h.keep hB fun _ _ => rfl
end
/-- An index's specification. -/
structure S where
  n : ByteArray
  p : ByteArray
  u : Bool
def SR (s : S) (cs : List Value) : Prop := cs = [.string s.n, .string s.p, .bool s.u]
/-- A collection. -/
structure C where
  n : ByteArray
  c : Int
  m : Int
  v : V
  a : Int
  g : Int
  ss : List S
def CR (w : World) (B : Nat) (x : C) (cs : List Value) : Prop := ∃ vs A c, cs = [.string x.n, .int .i64 x.c, .int .i64 x.m] ++ vs ++ [.int .i64 x.a, .int .i64 x.g, .slice A x.ss.length c] ∧ x.v.At w B vs ∧ Lst 3 SR w B A x.ss
/-- A document. -/
structure I where
  k : ByteArray
  n : Int
  v : V
def IR (w : World) (B : Nat) (x : I) (cs : List Value) : Prop := ∃ vs, cs = [.string x.k, .int .i64 x.n] ++ vs ∧ x.v.At w B vs
/-- A snapshot. -/
structure Sn where
  s : Int
  cs : List C
  ds : List I
def SnR (w : World) (B : Nat) (x : Sn) (cs : List Value) : Prop := ∃ A c A' c', cs = [.int .i64 x.s, .slice A x.cs.length c, .slice A' x.ds.length c'] ∧ Lst 11 (CR w B) w B A x.cs ∧ Lst 7 (IR w B) w B A' x.ds
section
variable {w w' : World} {B B' : Nat}
theorem CR.keep {x : C} {cs : List Value} (h : CR w B x cs) (hB : B ≤ B') (hk : ∀ p : Addr, p.block < B → w'.cell? p = w.cell? p) : CR w' B' x cs := by
  obtain ⟨vs, A, c, h1, h2, h3⟩ := h
  exact ⟨vs, A, c, h1, h2.keep hB hk, (h3.keep hk fun _ _ h => h).more hB⟩
theorem IR.keep {x : I} {cs : List Value} (h : IR w B x cs) (hB : B ≤ B') (hk : ∀ p : Addr, p.block < B → w'.cell? p = w.cell? p) : IR w' B' x cs := by
  obtain ⟨vs, h1, h2⟩ := h
  exact ⟨vs, h1, h2.keep hB hk⟩
theorem SnR.keep {x : Sn} {cs : List Value} (h : SnR w B x cs) (hB : B ≤ B') (hk : ∀ p : Addr, p.block < B → w'.cell? p = w.cell? p) : SnR w' B' x cs := by
  obtain ⟨A, c, A', c', h1, h2, h3⟩ := h
  exact ⟨A, c, A', c', h1, (h2.keep hk fun _ _ h => h.keep hB hk).more hB, (h3.keep hk fun _ _ h => h.keep hB hk).more hB⟩
end
end Go.Proofs.YtbjmakigdglghaaGreatDoor.Dd
namespace Go.Proofs.YtbjmakigdglghaaGreatDoor.Dd
set_option linter.unusedVariables false
open Go.RowKit
theorem take_step {α : Type} {l l' : List α} {k : Nat} (hk : k < l.length) (hk' : k < l'.length) (h : l.take k = l'.take k) (he : l[k] = l'[k]) : l.take (k + 1) = l'.take (k + 1) := by
  rw [List.take_succ_eq_append_getElem hk, List.take_succ_eq_append_getElem hk', h, he]
theorem ne_of_at {α : Type} {l l' : List α} {k : Nat} (hk : k < l.length) (hk' : k < l'.length) (he : l[k] ≠ l'[k]) : l ≠ l' := by
  rintro rfl
  exact he rfl
theorem eq_of_take {α : Type} {l l' : List α} (hl : l.length = l'.length) (h : l.take l.length = l'.take l.length) : l = l' := by
  rw [List.take_length, hl, List.take_length] at h
  exact h
theorem bytes_toList_inj {a b : ByteArray} (h : a.toList = b.toList) : a = b := by
  rw [ByteArray.toList_eq, ByteArray.toList_eq] at h
  obtain ⟨⟨x⟩⟩ := a
  obtain ⟨⟨y⟩⟩ := b
  have h' : x = y := h
  rw [h']
theorem Lst.str {w : World} {B : Nat} {A : Option Addr} {l : List ByteArray} {k : Nat} (h : Lst 1 StrR w B A l) (hk : k < l.length) : ∃ b off, A = some ⟨b, off, none⟩ ∧ b < B ∧ ∀ i (hi : i < l.length), w.cell? ⟨b, off + i, none⟩ = some (.string l[i]) := by
  obtain ⟨b, off, e, hb, hc⟩ := h.2 (by omega)
  refine ⟨b, off, e, hb, fun i hi => ?_⟩
  obtain ⟨cs, _, h2, h3⟩ := hc i hi
  have := h2 0 (.string l[i]) (by rw [h3]; rfl)
  rwa [Nat.mul_one] at this
open Classical in
theorem eqStrs (w : World) (A A' : Option Addr) (n n' c c' : Nat) (l l' : List ByteArray) (hn : l.length = n) (hn' : l'.length = n') (h : Lst 1 StrR w w.heap.size A l) (h' : Lst 1 StrR w w.heap.size A' l') :
    Calls Tryz.prog 68 #[.slice A n c, .slice A' n' c'] w fun e w' => e = .returned (.bool (decide (l = l'))) ∧ ∃ k, w' = w.drewN k := by
  have hmax : n ≤ 1048576 := by rw [← hn]; exact h.1
  have HN := Lib.hid hn
  have HN' := Lib.hid hn'
  clear hn hn'
  go_enter Tryz.func68, Tryz.ntmps68
  by_cases hnn : n = n'
  · subst hnn
    have H := h
    have H' := h'
    clear h h'
    go_wp2
    go_loopw [13] (fun i wr => ∃ k q : Nat, k ≤ n ∧ i = .int .i64 k ∧ wr = w.drewN q ∧ l.take k = l'.take k) (fun i _ => n - (intOf i).toNat)
    case atStart => exact ⟨0, 0, Nat.zero_le _, rfl, rfl, rfl⟩
    case round =>
      obtain ⟨k, q, hk, rfl, rfl, heq⟩ := hrel
      have HEQ := Lib.hid heq
      clear heq
      by_cases hlt : k < n
      · have hkl : k < l.length := by have := HN.out; omega
        have hkl' : k < l'.length := by have := HN'.out; omega
        obtain ⟨b, off, rfl, hb, hc⟩ := H.str hkl
        obtain ⟨b', off', rfl, hb', hc'⟩ := H'.str hkl'
        have p0 := hc k hkl
        have p1 := hc' k hkl'
        obtain ⟨x, hx⟩ : ∃ x, l[k] = x := ⟨_, rfl⟩
        obtain ⟨y, hy⟩ : ∃ y, l'[k] = y := ⟨_, rfl⟩
        rw [hx] at p0
        rw [hy] at p1
        have HX := Lib.hid hx
        have HY := Lib.hid hy
        clear hx hy hc hc' H H'
        by_cases hxy : x = y
        · subst hxy
          go_wp2
          go_quiet (fail)
          go_wp2
          go_roundw
          case rel => exact ⟨k + 1, _, by omega, by go_num, rfl, take_step hkl hkl' HEQ.out (HX.out.trans HY.out.symm)⟩
          case measure => simp [intOf]; omega
        · have hne : (x.toList == y.toList) = false := by
            simp only [beq_eq_false_iff_ne]
            exact fun e => hxy (bytes_toList_inj e)
          have HF := Lib.hid (decide_eq_false (p := l = l') (ne_of_at hkl hkl' (by rw [HX.out, HY.out]; exact hxy)))
          go_wp2
          go_quiet (fail)
          go_wp2
          go_ret
          exact ⟨by rw [HF.out]; rfl, _, World.drewN_drewN _ _ _⟩
      · obtain rfl : k = n := by omega
        have HT := Lib.hid (decide_eq_true (p := l = l') (eq_of_take (HN.out.trans HN'.out.symm) (by rw [HN.out]; exact HEQ.out)))
        go_wp2
        go_ret
        exact ⟨by rw [HT.out]; rfl, _, rfl⟩
  · have HF := Lib.hid (decide_eq_false (p := l = l') (fun e => hnn (by rw [← HN.out, ← HN'.out, e])))
    have hni : ¬ (n : Int) = (n' : Int) := by omega
    go_wp2
    go_ret
    exact ⟨by rw [HF.out]; rfl, 0, rfl⟩
end Go.Proofs.YtbjmakigdglghaaGreatDoor.Dd
namespace Go.Proofs.YtbjmakigdglghaaGreatDoor.Dd
set_option linter.unusedVariables false
open Go.RowKit
/-- A difference. -/
structure D where
  k : Int
  s : ByteArray
def DR (x : D) (cs : List Value) : Prop := cs = [.int .i64 x.k, .string x.s]
theorem toList_ne {a b : ByteArray} (h : a ≠ b) : (a.toList == b.toList) = false := by
  simp only [beq_eq_false_iff_ne]
  exact fun e => h (bytes_toList_inj e)
def eqS (n p : ByteArray) (u : Bool) (n' p' : ByteArray) (u' : Bool) : Bool := n.toList == n'.toList && (p.toList == p'.toList && u == u')
def eqD (k : Int) (s : ByteArray) (k' : Int) (s' : ByteArray) : Bool := k == k' && s.toList == s'.toList
theorem eqS_iff (x y : S) : eqS x.n x.p x.u y.n y.p y.u = true ↔ x = y := by
  unfold eqS
  simp only [Bool.and_eq_true, beq_iff_eq]
  constructor
  · rintro ⟨h1, h2, h3⟩
    have h1 := bytes_toList_inj h1
    have h2 := bytes_toList_inj h2
    cases x
    cases y
    simp_all
  · rintro rfl
    simp
theorem eqD_iff (x y : D) : eqD x.k x.s y.k y.s = true ↔ x = y := by
  unfold eqD
  simp only [Bool.and_eq_true, beq_iff_eq]
  constructor
  · rintro ⟨h1, h2⟩
    have h2 := bytes_toList_inj h2
    cases x
    cases y
    simp_all
  · rintro rfl
    simp
section
variable (w : World) (n p : ByteArray) (u : Bool) (n' p' : ByteArray) (u' : Bool) (k k' : Int)
theorem run_neq_S : Sem.run Tryz.prog (binOp .neq 84 (.agg #[.string n, .string p, .bool u]) (.agg #[.string n', .string p', .bool u'])) w = .ok (.bool (!(eqS n p u n' p' u'))) w := by
  rw [run_neq_struct, run_equalIn_agg _ _ _ _ _ (by kernel_rfl) (by kernel_rfl)]
  simp only [go_sem, eqS]
  by_cases h1 : n.toList = n'.toList <;> by_cases h2 : p.toList = p'.toList <;> by_cases h3 : u = u' <;> simp [h1, h2, h3, go_sem]
theorem run_neq_D : Sem.run Tryz.prog (binOp .neq 41 (.agg #[.int .i64 k, .string p]) (.agg #[.int .i64 k', .string p'])) w = .ok (.bool (!(eqD k p k' p'))) w := by
  rw [run_neq_struct, run_equalIn_agg _ _ _ _ _ (by kernel_rfl) (by kernel_rfl)]
  simp only [go_sem, eqD]
  by_cases h1 : k = k' <;> by_cases h2 : p.toList = p'.toList <;> simp [h1, h2, go_sem]
def eqR (k g k' g' : Int) : Bool := k == k' && g == g'
theorem run_neq_R (g g' : Int) : Sem.run Tryz.prog (binOp .neq 67 (.agg #[.int .i64 k, .int .i64 g]) (.agg #[.int .i64 k', .int .i64 g'])) w = .ok (.bool (!(eqR k g k' g'))) w := by
  rw [run_neq_struct, run_equalIn_agg _ _ _ _ _ (by kernel_rfl) (by kernel_rfl)]
  simp only [go_sem, eqR]
  by_cases h1 : k = k' <;> by_cases h2 : g = g' <;> simp [h1, h2, go_sem]
end
theorem guard84 : Tryz.prog.eqGuardType Tryz.prog.depth 84 = false := by kernel_rfl
theorem guard41 : Tryz.prog.eqGuardType Tryz.prog.depth 41 = false := by kernel_rfl
theorem guard67 : Tryz.prog.eqGuardType Tryz.prog.depth 67 = false := by kernel_rfl
attribute [local go_sem ↓] run_neq_S run_neq_D
attribute [local go_sem] guard84 guard41
open Classical in
theorem eqSpecs (w : World) (A A' : Option Addr) (n n' c c' : Nat) (l l' : List S) (hn : l.length = n) (hn' : l'.length = n') (h : Lst 3 SR w w.heap.size A l) (h' : Lst 3 SR w w.heap.size A' l') :
    Calls Tryz.prog 31 #[.slice A n c, .slice A' n' c'] w fun e w' => e = .returned (.bool (decide (l = l'))) ∧ ∃ k, w' = w.drewN k := by
  have hmax : n ≤ 1048576 := by rw [← hn]; exact h.1
  have HN := Lib.hid hn
  have HN' := Lib.hid hn'
  clear hn hn'
  go_enter Tryz.func31, Tryz.ntmps31
  by_cases hnn : n = n'
  · subst hnn
    have H := h
    have H' := h'
    clear h h'
    go_wp2
    go_loopw [13] (fun i wr => ∃ k q : Nat, k ≤ n ∧ i = .int .i64 k ∧ wr = w.drewN q ∧ l.take k = l'.take k) (fun i _ => n - (intOf i).toNat)
    case atStart => exact ⟨0, 0, Nat.zero_le _, rfl, rfl, rfl⟩
    case round =>
      obtain ⟨k, q, hk, rfl, rfl, heq⟩ := hrel
      have HEQ := Lib.hid heq
      clear heq
      by_cases hlt : k < n
      · have hkl : k < l.length := by have := HN.out; omega
        have hkl' : k < l'.length := by have := HN'.out; omega
        obtain ⟨b, off, rfl, hb, hc⟩ := H.2 (by omega)
        obtain ⟨b', off', rfl, hb', hc'⟩ := H'.2 (by omega)
        obtain ⟨x, hx⟩ : ∃ x, l[k] = x := ⟨_, rfl⟩
        obtain ⟨y, hy⟩ : ∃ y, l'[k] = y := ⟨_, rfl⟩
        obtain ⟨cs, _, h2a, h3⟩ := hc k hkl
        obtain ⟨cs', _, h2b, h3'⟩ := hc' k hkl'
        rw [hx] at h3
        rw [hy] at h3'
        unfold SR at h3 h3'
        subst h3 h3'
        have p0 := h2a 0 _ rfl
        have q0 := h2b 0 _ rfl
        have p1 := h2a 1 _ rfl
        have q1 := h2b 1 _ rfl
        have p2 := h2a 2 _ rfl
        have q2 := h2b 2 _ rfl
        try simp only [Nat.add_zero] at p0 q0
        have HX := Lib.hid hx
        have HY := Lib.hid hy
        clear hx hy hc hc' H H' h2a h2b
        by_cases hxy : x = y
        · have he := (eqS_iff x y).2 hxy
          have HXY := Lib.hid hxy
          clear hxy
          go_wp2
          go_quiet (fail)
          go_wp2
          go_roundw
          case rel => exact ⟨k + 1, _, by omega, by go_num, rfl, take_step hkl hkl' HEQ.out (by rw [HX.out, HY.out, HXY.out])⟩
          case measure => simp [intOf]; omega
        · have he : eqS x.n x.p x.u y.n y.p y.u = false := by
            rw [← Bool.not_eq_true, eqS_iff]
            exact hxy
          have HF := Lib.hid (decide_eq_false (p := l = l') (ne_of_at hkl hkl' (by rw [HX.out, HY.out]; exact hxy)))
          go_wp2
          go_quiet (fail)
          go_wp2
          go_ret
          exact ⟨by rw [HF.out]; rfl, _, World.drewN_drewN _ _ _⟩
      · obtain rfl : k = n := by omega
        have HT := Lib.hid (decide_eq_true (p := l = l') (eq_of_take (HN.out.trans HN'.out.symm) (by rw [HN.out]; exact HEQ.out)))
        go_wp2
        go_ret
        exact ⟨by rw [HT.out]; rfl, _, rfl⟩
  · have HF := Lib.hid (decide_eq_false (p := l = l') (fun e => hnn (by rw [← HN.out, ← HN'.out, e])))
    have hni : ¬ (n : Int) = (n' : Int) := by omega
    go_wp2
    go_ret
    exact ⟨by rw [HF.out]; rfl, 0, rfl⟩
open Classical in
theorem refSpecs (w : World) (A A' : Option Addr) (n n' c c' : Nat) (l l' : List S) (hn : l.length = n) (hn' : l'.length = n') (h : Lst 3 SR w w.heap.size A l) (h' : Lst 3 SR w w.heap.size A' l') :
    Calls Tryz.prog 23 #[.slice A n c, .slice A' n' c'] w fun e w' => e = .returned (.bool (decide (l = l'))) ∧ ∃ k, w' = w.drewN k := by
  have hmax : n ≤ 1048576 := by rw [← hn]; exact h.1
  have HN := Lib.hid hn
  have HN' := Lib.hid hn'
  clear hn hn'
  go_enter Tryz.func23, Tryz.ntmps23
  by_cases hnn : n = n'
  · subst hnn
    have H := h
    have H' := h'
    clear h h'
    go_wp2
    go_loopw [5] (fun i wr => ∃ k q : Nat, k ≤ n ∧ i = .int .i64 k ∧ wr = w.drewN q ∧ l.take k = l'.take k) (fun i _ => n - (intOf i).toNat)
    case atStart => exact ⟨0, 0, Nat.zero_le _, rfl, rfl, rfl⟩
    case round =>
      obtain ⟨k, q, hk, rfl, rfl, heq⟩ := hrel
      have HEQ := Lib.hid heq
      clear heq
      by_cases hlt : k < n
      · have hkl : k < l.length := by have := HN.out; omega
        have hkl' : k < l'.length := by have := HN'.out; omega
        obtain ⟨b, off, rfl, hb, hc⟩ := H.2 (by omega)
        obtain ⟨b', off', rfl, hb', hc'⟩ := H'.2 (by omega)
        obtain ⟨x, hx⟩ : ∃ x, l[k] = x := ⟨_, rfl⟩
        obtain ⟨y, hy⟩ : ∃ y, l'[k] = y := ⟨_, rfl⟩
        obtain ⟨cs, _, h2a, h3⟩ := hc k hkl
        obtain ⟨cs', _, h2b, h3'⟩ := hc' k hkl'
        rw [hx] at h3
        rw [hy] at h3'
        unfold SR at h3 h3'
        subst h3 h3'
        have p0 := h2a 0 _ rfl
        have q0 := h2b 0 _ rfl
        have p1 := h2a 1 _ rfl
        have q1 := h2b 1 _ rfl
        have p2 := h2a 2 _ rfl
        have q2 := h2b 2 _ rfl
        try simp only [Nat.add_zero] at p0 q0
        have HX := Lib.hid hx
        have HY := Lib.hid hy
        clear hx hy hc hc' H H' h2a h2b
        by_cases hxy : x = y
        · have he := (eqS_iff x y).2 hxy
          have HXY := Lib.hid hxy
          clear hxy
          go_wp2
          go_quiet (fail)
          go_wp2
          go_roundw
          case rel => exact ⟨k + 1, _, by omega, by go_num, rfl, take_step hkl hkl' HEQ.out (by rw [HX.out, HY.out, HXY.out])⟩
          case measure => simp [intOf]; omega
        · have he : eqS x.n x.p x.u y.n y.p y.u = false := by
            rw [← Bool.not_eq_true, eqS_iff]
            exact hxy
          have HF := Lib.hid (decide_eq_false (p := l = l') (ne_of_at hkl hkl' (by rw [HX.out, HY.out]; exact hxy)))
          go_wp2
          go_quiet (fail)
          go_wp2
          go_ret
          exact ⟨by rw [HF.out]; rfl, _, World.drewN_drewN _ _ _⟩
      · obtain rfl : k = n := by omega
        have HT := Lib.hid (decide_eq_true (p := l = l') (eq_of_take (HN.out.trans HN'.out.symm) (by rw [HN.out]; exact HEQ.out)))
        go_wp2
        go_ret
        exact ⟨by rw [HT.out]; rfl, _, rfl⟩
  · have HF := Lib.hid (decide_eq_false (p := l = l') (fun e => hnn (by rw [← HN.out, ← HN'.out, e])))
    have hni : ¬ (n : Int) = (n' : Int) := by omega
    go_wp2
    go_ret
    exact ⟨by rw [HF.out]; rfl, 0, rfl⟩
open Classical in
theorem eqDiffs (w : World) (A A' : Option Addr) (n n' c c' : Nat) (l l' : List D) (hn : l.length = n) (hn' : l'.length = n') (h : Lst 2 DR w w.heap.size A l) (h' : Lst 2 DR w w.heap.size A' l') :
    Calls Tryz.prog 14 #[.slice A n c, .slice A' n' c'] w fun e w' => e = .returned (.bool (decide (l = l'))) ∧ ∃ k, w' = w.drewN k := by
  have hmax : n ≤ 1048576 := by rw [← hn]; exact h.1
  have HN := Lib.hid hn
  have HN' := Lib.hid hn'
  clear hn hn'
  go_enter Tryz.func14, Tryz.ntmps14
  by_cases hnn : n = n'
  · subst hnn
    have H := h
    have H' := h'
    clear h h'
    go_wp2
    go_loopw [5] (fun i wr => ∃ k q : Nat, k ≤ n ∧ i = .int .i64 k ∧ wr = w.drewN q ∧ l.take k = l'.take k) (fun i _ => n - (intOf i).toNat)
    case atStart => exact ⟨0, 0, Nat.zero_le _, rfl, rfl, rfl⟩
    case round =>
      obtain ⟨k, q, hk, rfl, rfl, heq⟩ := hrel
      have HEQ := Lib.hid heq
      clear heq
      by_cases hlt : k < n
      · have hkl : k < l.length := by have := HN.out; omega
        have hkl' : k < l'.length := by have := HN'.out; omega
        obtain ⟨b, off, rfl, hb, hc⟩ := H.2 (by omega)
        obtain ⟨b', off', rfl, hb', hc'⟩ := H'.2 (by omega)
        obtain ⟨x, hx⟩ : ∃ x, l[k] = x := ⟨_, rfl⟩
        obtain ⟨y, hy⟩ : ∃ y, l'[k] = y := ⟨_, rfl⟩
        obtain ⟨cs, _, h2a, h3⟩ := hc k hkl
        obtain ⟨cs', _, h2b, h3'⟩ := hc' k hkl'
        rw [hx] at h3
        rw [hy] at h3'
        unfold DR at h3 h3'
        subst h3 h3'
        have p0 := h2a 0 _ rfl
        have q0 := h2b 0 _ rfl
        have p1 := h2a 1 _ rfl
        have q1 := h2b 1 _ rfl
        try simp only [Nat.add_zero] at p0 q0
        have HX := Lib.hid hx
        have HY := Lib.hid hy
        clear hx hy hc hc' H H' h2a h2b
        by_cases hxy : x = y
        · have he := (eqD_iff x y).2 hxy
          have HXY := Lib.hid hxy
          clear hxy
          go_wp2
          go_quiet (fail)
          go_wp2
          go_roundw
          case rel => exact ⟨k + 1, _, by omega, by go_num, rfl, take_step hkl hkl' HEQ.out (by rw [HX.out, HY.out, HXY.out])⟩
          case measure => simp [intOf]; omega
        · have he : eqD x.k x.s y.k y.s = false := by
            rw [← Bool.not_eq_true, eqD_iff]
            exact hxy
          have HF := Lib.hid (decide_eq_false (p := l = l') (ne_of_at hkl hkl' (by rw [HX.out, HY.out]; exact hxy)))
          go_wp2
          go_quiet (fail)
          go_wp2
          go_ret
          exact ⟨by rw [HF.out]; rfl, _, World.drewN_drewN _ _ _⟩
      · obtain rfl : k = n := by omega
        have HT := Lib.hid (decide_eq_true (p := l = l') (eq_of_take (HN.out.trans HN'.out.symm) (by rw [HN.out]; exact HEQ.out)))
        go_wp2
        go_ret
        exact ⟨by rw [HT.out]; rfl, _, rfl⟩
  · have HF := Lib.hid (decide_eq_false (p := l = l') (fun e => hnn (by rw [← HN.out, ← HN'.out, e])))
    have hni : ¬ (n : Int) = (n' : Int) := by omega
    go_wp2
    go_ret
    exact ⟨by rw [HF.out]; rfl, 0, rfl⟩
end Go.Proofs.YtbjmakigdglghaaGreatDoor.Dd
namespace Go.Proofs.YtbjmakigdglghaaGreatDoor.Dd
set_option linter.unusedVariables false
open Go.RowKit
theorem Lst.drewN {n : Nat} {α : Type} {R : α → List Value → Prop} {w : World} {B : Nat} {A : Option Addr} {l : List α} (h : Lst n R w B A l) (k : Nat) : Lst n R (w.drewN k) B A l := h
theorem bel_drewN {B : Nat} {w w' : World} (h : Below B w w') (n : Nat) : Below B w (w'.drewN n) := ⟨h.os, h.tape, h.output, h.size, h.block⟩
theorem V.At.drewN {w : World} {B : Nat} {x : V} {cs : List Value} (h : V.At w B x cs) (n : Nat) : V.At (w.drewN n) B x cs := V.At.keep (w := w) (w' := w.drewN n) (Nat.le_refl _) (fun _ _ => rfl) h
theorem V.At.drew {w : World} {B : Nat} {x : V} {cs : List Value} (h : V.At w B x cs) : V.At w.drew B x cs := V.At.keep (w := w) (w' := w.drew) (Nat.le_refl _) (fun _ _ => rfl) h
theorem V.sizeOf_at {xs : List V} {k : Nat} (h : k < xs.length) : SizeOf.sizeOf xs[k] < SizeOf.sizeOf xs := List.sizeOf_lt_of_mem (List.getElem_mem h)
theorem V.At.form {w : World} {B : Nat} {x : V} {cs : List Value} (h : V.At w B x cs) : ∃ k i t An nn cn Ai ni ci, cs = [.int .i64 k, .int .i64 i, .string t, .slice An nn cn, .slice Ai ni ci] := by
  cases x
  rw [V.at_mk] at h
  obtain ⟨_, _, _, _, rfl, _⟩ := h
  exact ⟨_, _, _, _, _, _, _, _, _, rfl⟩
/-- the i-th of a list of values, in a later world -/
theorem Lst.val {w : World} {B : Nat} {A : Option Addr} {xs : List V} {k : Nat} (h : Lst 5 (V.At w B) w B A xs) (hk : k < xs.length) :
    ∃ b off c0 c1 c2 c3 c4, A = some ⟨b, off, none⟩ ∧ b < B ∧ xs[k].At w B [c0, c1, c2, c3, c4] ∧ w.cell? ⟨b, off + k * 5, none⟩ = some c0 ∧ w.cell? ⟨b, off + k * 5 + 1, none⟩ = some c1 ∧ w.cell? ⟨b, off + k * 5 + 2, none⟩ = some c2 ∧
      w.cell? ⟨b, off + k * 5 + 3, none⟩ = some c3 ∧ w.cell? ⟨b, off + k * 5 + 4, none⟩ = some c4 := by
  obtain ⟨b, off, e, hb, hc⟩ := h.2 (by omega)
  obtain ⟨cs, h1, h2, h3⟩ := hc k hk
  match cs, h1 with
  | [c0, c1, c2, c3, c4], _ => exact ⟨b, off, c0, c1, c2, c3, c4, e, hb, h3, h2 0 _ rfl, h2 1 _ rfl, h2 2 _ rfl, h2 3 _ rfl, h2 4 _ rfl⟩
open Classical in
set_option maxRecDepth 100000 in
set_option maxHeartbeats 4000000 in
theorem refEqual (m : Nat) : ∀ (x y : V) (cs cs' : List Value) (w : World), SizeOf.sizeOf x < m → x.At w w.heap.size cs → y.At w w.heap.size cs' →
    Calls Tryz.prog 22 #[.agg cs.toArray, .agg cs'.toArray] w fun e w' => e = .returned (.bool (decide (x = y))) ∧ Below w.heap.size w w' := by
  induction m with
  | zero => intro x y cs cs' w h; omega
  | succ m ih =>
    rintro ⟨k, i, t, ns, xs⟩ ⟨k', i', t', ns', xs'⟩ cs cs' w hsz hx hy
    rw [V.at_mk] at hx hy
    obtain ⟨An, cn, Ai, ci, rfl, hns, hxs⟩ := hx
    obtain ⟨An', cn', Ai', ci', rfl, hns', hxs'⟩ := hy
    have hxl : ∀ j (h : j < xs.length), SizeOf.sizeOf xs[j] < m := fun j h => by
      have := V.sizeOf_at h
      simp only [V.mk.sizeOf_spec] at hsz
      omega
    have HXL := Lib.hid hxl
    have HIH := Lib.hid ih
    clear hsz hxl ih
    obtain ⟨nn, hnn⟩ : ∃ n, ns.length = n := ⟨_, rfl⟩
    obtain ⟨nn', hnn'⟩ : ∃ n, ns'.length = n := ⟨_, rfl⟩
    obtain ⟨ni, hni⟩ : ∃ n, xs.length = n := ⟨_, rfl⟩
    obtain ⟨ni', hni'⟩ : ∃ n, xs'.length = n := ⟨_, rfl⟩
    rw [hnn, hnn', hni, hni']
    have b1 := hns.1
    have b2 := hns'.1
    have b3 := hxs.1
    have b4 := hxs'.1
    rw [hnn] at b1
    rw [hnn'] at b2
    rw [hni] at b3
    rw [hni'] at b4
    have HNN := Lib.hid hnn
    have HNN' := Lib.hid hnn'
    have HNI := Lib.hid hni
    have HNI' := Lib.hid hni'
    clear hnn hnn' hni hni'
    show Calls Tryz.prog 22 #[.agg #[.int .i64 k, .int .i64 i, .string t, .slice An nn cn, .slice Ai ni ci], .agg #[.int .i64 k', .int .i64 i', .string t', .slice An' nn' cn', .slice Ai' ni' ci']] w _
    by_cases h1 : k = k'
    case neg =>
      have HF : Hid (decide (V.mk k i t ns xs = V.mk k' i' t' ns' xs') = false) := decide_eq_false (fun e => by injection e; contradiction)
      go_enter Tryz.func22, Tryz.ntmps22
      go_wp2
      go_ret
      exact ⟨by rw [HF.out]; rfl, ((Below.refl _ _).alloc (Nat.le_refl _) _).alloc (by simp) _⟩
    subst h1
    by_cases h2 : i = i'
    case neg =>
      have HF : Hid (decide (V.mk k i t ns xs = V.mk k i' t' ns' xs') = false) := decide_eq_false (fun e => by injection e; contradiction)
      go_enter Tryz.func22, Tryz.ntmps22
      go_wp2
      go_ret
      exact ⟨by rw [HF.out]; rfl, ((Below.refl _ _).alloc (Nat.le_refl _) _).alloc (by simp) _⟩
    subst h2
    by_cases h3 : t = t'
    case neg =>
      have HF : Hid (decide (V.mk k i t ns xs = V.mk k i t' ns' xs') = false) := decide_eq_false (fun e => by injection e; contradiction)
      have hne := toList_ne h3
      go_enter Tryz.func22, Tryz.ntmps22
      go_wp2
      go_ret
      exact ⟨by rw [HF.out]; rfl, ((Below.refl _ _).alloc (Nat.le_refl _) _).alloc (by simp) _⟩
    subst h3
    by_cases h4 : nn = nn'
    case neg =>
      have HF : Hid (decide (V.mk k i t ns xs = V.mk k i t ns' xs') = false) := decide_eq_false (fun e => by injection e with _ _ _ e; exact h4 (by rw [← HNN.out, ← HNN'.out, e]))
      have hne : ¬ (nn : Int) = (nn' : Int) := by omega
      go_enter Tryz.func22, Tryz.ntmps22
      go_wp2
      go_ret
      exact ⟨by rw [HF.out]; rfl, ((Below.refl _ _).alloc (Nat.le_refl _) _).alloc (by simp) _⟩
    subst h4
    by_cases h5 : ni = ni'
    case neg =>
      have HF : Hid (decide (V.mk k i t ns xs = V.mk k i t ns' xs') = false) := decide_eq_false (fun e => by injection e with _ _ _ _ e; exact h5 (by rw [← HNI.out, ← HNI'.out, e]))
      have hne : ¬ (ni : Int) = (ni' : Int) := by omega
      go_enter Tryz.func22, Tryz.ntmps22
      go_wp2
      go_ret
      exact ⟨by rw [HF.out]; rfl, ((Below.refl _ _).alloc (Nat.le_refl _) _).alloc (by simp) _⟩
    subst h5
    go_enter Tryz.func22, Tryz.ntmps22
    go_wp2
    go_loopw [5] (fun v wr => ∃ j : Nat, j ≤ nn ∧ v = .int .i64 j ∧ Blk wr w.heap.size 60 #[.int .i64 k, .int .i64 i, .string t, .slice An nn cn, .slice Ai ni ci] ∧ Blk wr (w.heap.size + 1) 60 #[.int .i64 k, .int .i64 i, .string t, .slice An' nn cn', .slice Ai' ni ci'] ∧
      Below w.heap.size w wr ∧ ns.take j = ns'.take j) (fun v _ => nn - (intOf v).toNat)
    case atStart => exact ⟨0, Nat.zero_le _, rfl, (Blk.new w 60 _).alloc _, by simpa using Blk.new (w.alloc (.cells #[.int .i64 k, .int .i64 i, .string t, .slice An nn cn, .slice Ai ni ci] 60)) 60 #[.int .i64 k, .int .i64 i, .string t, .slice An' nn cn', .slice Ai' ni ci'], ((Below.refl _ _).alloc (Nat.le_refl _) _).alloc (by simp) _, rfl⟩
    case round =>
      obtain ⟨j, hj, rfl, hb1, hb2, hbel, heq⟩ := hrel
      have g3 := hb1.cell 3
      have g3' := hb2.cell 3
      simp at g3 g3'
      have HEQ := Lib.hid heq
      clear heq
      by_cases hlt : j < nn
      · have hkl : j < ns.length := by have := HNN.out; omega
        have hkl' : j < ns'.length := by have := HNN'.out; omega
        obtain ⟨b, off, rfl, hb, hc⟩ := hns.str hkl
        obtain ⟨b', off', rfl, hb', hc'⟩ := hns'.str hkl'
        have p0 := (hbel.cell (p := ⟨b, _, none⟩) hb).trans (hc j hkl)
        have p1 := (hbel.cell (p := ⟨b', _, none⟩) hb').trans (hc' j hkl')
        obtain ⟨x, hx⟩ : ∃ x, ns[j] = x := ⟨_, rfl⟩
        obtain ⟨y, hy⟩ : ∃ y, ns'[j] = y := ⟨_, rfl⟩
        rw [hx] at p0
        rw [hy] at p1
        have HX := Lib.hid hx
        have HY := Lib.hid hy
        clear hx hy hc hc' hns hns' hxs hxs'
        by_cases hxy : x = y
        · subst hxy
          go_wp2
          go_quiet (fail)
          go_wp2
          go_roundw
          case rel => exact ⟨j + 1, by omega, by go_num, hb1, hb2, bel_drewN hbel _, take_step hkl hkl' HEQ.out (HX.out.trans HY.out.symm)⟩
          case measure => simp [intOf]; omega
        · have hne := toList_ne hxy
          have HF : Hid (decide (V.mk k i t ns xs = V.mk k i t ns' xs') = false) := decide_eq_false (fun e => by injection e with _ _ _ e; exact ne_of_at hkl hkl' (by rw [HX.out, HY.out]; exact hxy) e)
          go_wp2
          go_quiet (fail)
          go_wp2
          go_ret
          exact ⟨by rw [HF.out]; rfl, bel_drewN hbel _⟩
      · obtain rfl : j = nn := by omega
        have HNS := Lib.hid (eq_of_take (HNN.out.trans HNN'.out.symm) (by rw [HNN.out]; exact HEQ.out))
        clear hns hns' HEQ hlt hj
        go_wp2
        clear g3 g3'
        go_loopw [6] (fun v wr => ∃ q : Nat, q ≤ ni ∧ v = .int .i64 q ∧ Blk wr w.heap.size 60 #[.int .i64 k, .int .i64 i, .string t, .slice An j cn, .slice Ai ni ci] ∧ Blk wr (w.heap.size + 1) 60 #[.int .i64 k, .int .i64 i, .string t, .slice An' j cn', .slice Ai' ni ci'] ∧
          Below w.heap.size w wr ∧ xs.take q = xs'.take q) (fun v _ => ni - (intOf v).toNat)
        case atStart => exact ⟨0, Nat.zero_le _, rfl, hb1, hb2, hbel, rfl⟩
        case round =>
          clear hb1 hb2 hbel
          obtain ⟨q, hq, rfl, hb1, hb2, hbel, heq⟩ := hrel
          have HEQ := Lib.hid heq
          have g4 := hb1.cell 4
          have g4' := hb2.cell 4
          simp at g4 g4'
          clear heq
          by_cases hlt : q < ni
          · have hkl : q < xs.length := by have := HNI.out; omega
            have hkl' : q < xs'.length := by have := HNI'.out; omega
            obtain ⟨b, off, c0, c1, c2, c3, c4, rfl, hb, hV, q0, q1, q2, q3, q4⟩ := hxs.val hkl
            obtain ⟨b', off', d0, d1, d2, d3, d4, rfl, hb', hV', r0, r1, r2, r3, r4⟩ := hxs'.val hkl'
            have p0 := (hbel.cell (p := ⟨b, _, none⟩) hb).trans q0
            have p1 := (hbel.cell (p := ⟨b, _, none⟩) hb).trans q1
            have p2 := (hbel.cell (p := ⟨b, _, none⟩) hb).trans q2
            have p3 := (hbel.cell (p := ⟨b, _, none⟩) hb).trans q3
            have p4 := (hbel.cell (p := ⟨b, _, none⟩) hb).trans q4
            have s0 := (hbel.cell (p := ⟨b', _, none⟩) hb').trans r0
            have s1 := (hbel.cell (p := ⟨b', _, none⟩) hb').trans r1
            have s2 := (hbel.cell (p := ⟨b', _, none⟩) hb').trans r2
            have s3 := (hbel.cell (p := ⟨b', _, none⟩) hb').trans r3
            have s4 := (hbel.cell (p := ⟨b', _, none⟩) hb').trans r4
            have hV1 := (hV.below hbel).more hbel.size
            have hV1' := (hV'.below hbel).more hbel.size
            obtain ⟨x, hx⟩ : ∃ x, xs[q] = x := ⟨_, rfl⟩
            obtain ⟨y, hy⟩ : ∃ y, xs'[q] = y := ⟨_, rfl⟩
            rw [hx] at hV1
            rw [hy] at hV1'
            have hxm := HXL.out q hkl
            rw [hx] at hxm
            have hcall := HIH.out x y _ _ wr.drew hxm hV1.drew hV1'.drew
            have HCALL := Lib.hid hcall
            have HX := Lib.hid hx
            have HY := Lib.hid hy
            clear hx hy hxs hxs' hV hV' hV1 hV1' q0 q1 q2 q3 q4 r0 r1 r2 r3 r4 hxm hcall
            go_wp2
            go_still_tail 10, (by kernel_rfl)
            change wpList _ _ _ _ _ wr.drew
            have hwd := hbel.drew
            have hsd : wr.drew.heap.size = wr.heap.size := rfl
            have hsz := hbel.size
            have hd1 := hb1.drew
            have hd2 := hb2.drew
            have l2 := hb2.lt
            clear p0 p1 p2 p3 p4 s0 s1 s2 s3 s4 g4 g4' hb1 hb2 hbel
            rw [← hsd] at hsz l2
            clear hsd
            generalize wr.drew = wd at hwd hsz hd1 hd2 l2 HCALL ⊢
            go_wp2_with fail
            refine HCALL.out.mono ?_
            rintro e w2 ⟨rfl, hb9⟩
            have hw2 := hwd.trans (hb9.mono hsz)
            have e1 := hd1.below hb9 (by omega)
            have e2 := hd2.below hb9 (by omega)
            clear HCALL hd1 hd2 hwd hb9
            by_cases hxy : x = y
            · rw [decide_eq_true hxy]
              have HXY := Lib.hid hxy
              clear hxy
              go_wp2
              go_roundw
              case rel => exact ⟨q + 1, by omega, by go_num, e1, e2, hw2, take_step hkl hkl' HEQ.out (by rw [HX.out, HY.out, HXY.out])⟩
              case measure => simp [intOf]; omega
            · rw [decide_eq_false hxy]
              have HF : Hid (decide (V.mk k i t ns xs = V.mk k i t ns' xs') = false) := decide_eq_false (fun e => by injection e with _ _ _ _ e; exact ne_of_at hkl hkl' (by rw [HX.out, HY.out]; exact hxy) e)
              clear hxy
              go_wp2
              go_ret
              exact ⟨by rw [HF.out]; rfl, hw2⟩
          · obtain rfl : q = ni := by omega
            have HT : Hid (decide (V.mk k i t ns xs = V.mk k i t ns' xs') = true) := decide_eq_true (by rw [HNS.out, eq_of_take (HNI.out.trans HNI'.out.symm) (by rw [HNI.out]; exact HEQ.out)])
            go_wp2
            go_ret
            exact ⟨by rw [HT.out]; rfl, hbel⟩
end Go.Proofs.YtbjmakigdglghaaGreatDoor.Dd
namespace Go.Proofs.YtbjmakigdglghaaGreatDoor.Dd
set_option linter.unusedVariables false
open Go.RowKit
open Classical in
def EqAll (m : Nat) : Prop := ∀ (x y : V) (cs cs' : List Value) (w : World), SizeOf.sizeOf x < m → x.At w w.heap.size cs → y.At w w.heap.size cs' →
    Calls Tryz.prog 30 #[.agg cs.toArray, .agg cs'.toArray] w fun e w' => e = .returned (.bool (decide (x = y))) ∧ Below w.heap.size w w'
open Classical in
set_option maxRecDepth 100000 in
set_option maxHeartbeats 4000000 in
theorem eqFunc (m : Nat) (IH : EqAll m) (w : World) (A A' : Option Addr) (n n' c c' : Nat) (xs xs' : List V) (hn : xs.length = n) (hn' : xs'.length = n') (hsm : ∀ j (h : j < xs.length), SizeOf.sizeOf xs[j] < m)
    (h : Lst 5 (V.At w w.heap.size) w w.heap.size A xs) (h' : Lst 5 (V.At w w.heap.size) w w.heap.size A' xs') :
    Calls Tryz.prog 69 #[.slice A n c, .slice A' n' c', .func (.func 30) #[] #[]] w fun e w' => e = .returned (.bool (decide (xs = xs'))) ∧ Below w.heap.size w w' := by
  have hmax : n ≤ 1048576 := by rw [← hn]; exact h.1
  have HN := Lib.hid hn
  have HN' := Lib.hid hn'
  have HSM := Lib.hid hsm
  have HIH := Lib.hid IH
  clear hn hn' hsm IH
  go_enter Tryz.func69, Tryz.ntmps69
  by_cases hnn : n = n'
  · subst hnn
    have H := h
    have H' := h'
    clear h h'
    go_wp2
    go_loopw [17] (fun v wr => ∃ k : Nat, k ≤ n ∧ v = .int .i64 k ∧ Below w.heap.size w wr ∧ xs.take k = xs'.take k) (fun v _ => n - (intOf v).toNat)
    case atStart => exact ⟨0, Nat.zero_le _, rfl, Below.refl _ _, rfl⟩
    case round =>
      obtain ⟨k, hk, rfl, hbel, heq⟩ := hrel
      have HEQ := Lib.hid heq
      clear heq
      by_cases hlt : k < n
      · have hkl : k < xs.length := by have := HN.out; omega
        have hkl' : k < xs'.length := by have := HN'.out; omega
        obtain ⟨b, off, c0, c1, c2, c3, c4, rfl, hb, hV, q0, q1, q2, q3, q4⟩ := H.val hkl
        obtain ⟨b', off', d0, d1, d2, d3, d4, rfl, hb', hV', r0, r1, r2, r3, r4⟩ := H'.val hkl'
        have p0 := (hbel.cell (p := ⟨b, _, none⟩) hb).trans q0
        have p1 := (hbel.cell (p := ⟨b, _, none⟩) hb).trans q1
        have p2 := (hbel.cell (p := ⟨b, _, none⟩) hb).trans q2
        have p3 := (hbel.cell (p := ⟨b, _, none⟩) hb).trans q3
        have p4 := (hbel.cell (p := ⟨b, _, none⟩) hb).trans q4
        have s0 := (hbel.cell (p := ⟨b', _, none⟩) hb').trans r0
        have s1 := (hbel.cell (p := ⟨b', _, none⟩) hb').trans r1
        have s2 := (hbel.cell (p := ⟨b', _, none⟩) hb').trans r2
        have s3 := (hbel.cell (p := ⟨b', _, none⟩) hb').trans r3
        have s4 := (hbel.cell (p := ⟨b', _, none⟩) hb').trans r4
        have hsz := hbel.size
        have hbb : b < wr.heap.size := by omega
        have hbb' : b' < wr.heap.size := by omega
        obtain ⟨x, hx⟩ : ∃ x, xs[k] = x := ⟨_, rfl⟩
        obtain ⟨y, hy⟩ : ∃ y, xs'[k] = y := ⟨_, rfl⟩
        have hxm := HSM.out k hkl
        obtain ⟨vk, vi, vt, vA, vn, vc, vB, vm, vd, ev⟩ := hV.form
        obtain ⟨uk, ui, ut, uA, un, uc, uB, um, ud, eu⟩ := hV'.form
        injection ev with e0 ev
        injection ev with e1 ev
        injection ev with e2 ev
        injection ev with e3 ev
        injection ev with e4 ev
        subst e0 e1 e2 e3 e4
        injection eu with e0 eu
        injection eu with e1 eu
        injection eu with e2 eu
        injection eu with e3 eu
        injection eu with e4 eu
        subst e0 e1 e2 e3 e4
        have HV := Lib.hid hV
        have HV' := Lib.hid hV'
        have HX := Lib.hid hx
        have HY := Lib.hid hy
        clear hx hy H H' hV hV' q0 q1 q2 q3 q4 r0 r1 r2 r3 r4
        go_wp2_with fail
        have hal := (hbel.alloc hsz (.cells #[.int .i64 vk, .int .i64 vi, .string vt, .slice vA vn vc, .slice vB vm vd] 60)).alloc (by simp; omega) (.cells #[.int .i64 uk, .int .i64 ui, .string ut, .slice uA un uc, .slice uB um ud] 60)
        have hV1 := (HV.out.below hal).more hal.size
        have hV1' := (HV'.out.below hal).more hal.size
        refine (HIH.out xs[k] xs'[k] _ _ _ hxm hV1 hV1').mono ?_
        rintro e w2 ⟨rfl, hb9⟩
        have hw2 := hal.trans (hb9.mono hal.size)
        clear hV1 hV1' hal p0 p1 p2 p3 p4 s0 s1 s2 s3 s4 hb9 hbel hxm
        rw [HX.out, HY.out]
        by_cases hxy : x = y
        · rw [decide_eq_true hxy]
          have HXY := Lib.hid hxy
          clear hxy
          go_wp2
          go_roundw
          case rel => exact ⟨k + 1, by omega, by go_num, hw2, take_step hkl hkl' HEQ.out (by rw [HX.out, HY.out, HXY.out])⟩
          case measure => simp [intOf]; omega
        · rw [decide_eq_false hxy]
          have HF := Lib.hid (decide_eq_false (p := xs = xs') (ne_of_at hkl hkl' (by rw [HX.out, HY.out]; exact hxy)))
          clear hxy
          go_wp2
          go_ret
          exact ⟨by rw [HF.out]; rfl, hw2⟩
      · obtain rfl : k = n := by omega
        have HT := Lib.hid (decide_eq_true (p := xs = xs') (eq_of_take (HN.out.trans HN'.out.symm) (by rw [HN.out]; exact HEQ.out)))
        go_wp2
        go_ret
        exact ⟨by rw [HT.out]; rfl, hbel⟩
  · have HF := Lib.hid (decide_eq_false (p := xs = xs') (fun e => hnn (by rw [← HN.out, ← HN'.out, e])))
    have hni : ¬ (n : Int) = (n' : Int) := by omega
    go_wp2
    go_ret
    exact ⟨by rw [HF.out]; rfl, Below.refl _ _⟩
open Classical in
set_option maxRecDepth 100000 in
set_option maxHeartbeats 4000000 in
theorem eqAll (m : Nat) : EqAll m := by
  induction m with
  | zero => intro x y cs cs' w h; omega
  | succ m ih =>
    rintro ⟨k, i, t, ns, xs⟩ ⟨k', i', t', ns', xs'⟩ cs cs' w hsz hx hy
    rw [V.at_mk] at hx hy
    obtain ⟨An, cn, Ai, ci, rfl, hns, hxs⟩ := hx
    obtain ⟨An', cn', Ai', ci', rfl, hns', hxs'⟩ := hy
    have hxl : ∀ j (h : j < xs.length), SizeOf.sizeOf xs[j] < m := fun j h => by
      have := V.sizeOf_at h
      simp only [V.mk.sizeOf_spec] at hsz
      omega
    have hw1 := ((Below.refl w.heap.size w).alloc (Nat.le_refl _) (.cells #[.int .i64 k, .int .i64 i, .string t, .slice An ns.length cn, .slice Ai xs.length ci] 60)).alloc (by simp) (.cells #[.int .i64 k', .int .i64 i', .string t', .slice An' ns'.length cn', .slice Ai' xs'.length ci'] 60)
    have hcn := eqStrs _ An An' ns.length ns'.length cn cn' ns ns' rfl rfl ((hns.keep (fun _ hp => hw1.cell hp) fun _ _ h => h).more hw1.size) ((hns'.keep (fun _ hp => hw1.cell hp) fun _ _ h => h).more hw1.size)
    have hci := fun q => eqFunc m ih (((w.alloc (.cells #[.int .i64 k, .int .i64 i, .string t, .slice An ns.length cn, .slice Ai xs.length ci] 60)).alloc (.cells #[.int .i64 k', .int .i64 i', .string t', .slice An' ns'.length cn', .slice Ai' xs'.length ci'] 60)).drewN q) Ai Ai' xs.length xs'.length ci ci' xs xs' rfl rfl hxl
      (((hxs.keep (fun _ hp => hw1.cell hp) fun _ _ h => h.below hw1).more hw1.size).drewN q |>.imp fun _ _ h => (h.more hw1.size).drewN q) (((hxs'.keep (fun _ hp => hw1.cell hp) fun _ _ h => h.below hw1).more hw1.size).drewN q |>.imp fun _ _ h => (h.more hw1.size).drewN q)
    have HCN := Lib.hid hcn
    have HCI := Lib.hid hci
    have HW1 := Lib.hid hw1
    clear hcn hci hw1 hns hns' hxs hxs' hxl hsz
    show Calls Tryz.prog 30 #[.agg #[.int .i64 k, .int .i64 i, .string t, .slice An ns.length cn, .slice Ai xs.length ci], .agg #[.int .i64 k', .int .i64 i', .string t', .slice An' ns'.length cn', .slice Ai' xs'.length ci']] w _
    obtain ⟨nn, hnn⟩ : ∃ n, ns.length = n := ⟨_, rfl⟩
    obtain ⟨nn', hnn'⟩ : ∃ n, ns'.length = n := ⟨_, rfl⟩
    obtain ⟨ni, hni⟩ : ∃ n, xs.length = n := ⟨_, rfl⟩
    obtain ⟨ni', hni'⟩ : ∃ n, xs'.length = n := ⟨_, rfl⟩
    rw [hnn, hnn', hni, hni'] at HCN HCI HW1 ⊢
    clear hnn hnn' hni hni'
    have hand : Hid (decide (V.mk k i t ns xs = V.mk k' i' t' ns' xs') = (decide (k = k') && (decide (i = i') && (decide (t = t') && (decide (ns = ns') && decide (xs = xs')))))) := by
      unfold Hid
      simp only [V.mk.injEq, Bool.decide_and]
    rw [hand.out]
    by_cases h1 : k = k'
    case neg =>
      rw [decide_eq_false h1]
      go_enter Tryz.func30, Tryz.ntmps30
      go_wp2
      go_ret
      exact ⟨rfl, HW1.out⟩
    subst h1
    by_cases h2 : i = i'
    case neg =>
      rw [decide_eq_false h2]
      go_enter Tryz.func30, Tryz.ntmps30
      go_wp2
      go_ret
      exact ⟨by simp, HW1.out⟩
    subst h2
    by_cases h3 : t = t'
    case neg =>
      have hne := toList_ne h3
      rw [decide_eq_false h3]
      go_enter Tryz.func30, Tryz.ntmps30
      go_wp2
      go_ret
      exact ⟨by simp, HW1.out⟩
    subst h3
    go_enter Tryz.func30, Tryz.ntmps30
    go_wp2_with fail
    refine HCN.out.mono ?_
    rintro e w2 ⟨rfl, q, rfl⟩
    clear HCN
    by_cases h4 : ns = ns'
    case neg =>
      have HF := Lib.hid (show false = (decide True && (decide True && (decide True && (decide (ns = ns') && decide (xs = xs'))))) from by simp [h4])
      rw [decide_eq_false h4]
      clear h4
      go_wp2
      go_ret
      exact ⟨congrArg (fun b => Ending.returned (Value.bool b)) HF.out, bel_drewN HW1.out q⟩
    have HF := Lib.hid (show decide (xs = xs') = (decide True && (decide True && (decide True && (decide (ns = ns') && decide (xs = xs'))))) from by simp [h4])
    rw [decide_eq_true h4]
    clear h4
    go_wp2_with fail
    refine (HCI.out q).mono ?_
    rintro e w2 ⟨rfl, hb9⟩
    have hb := (bel_drewN HW1.out q).trans (hb9.mono HW1.out.size)
    clear HCI HW1 hb9
    obtain ⟨r, hr⟩ : ∃ r, decide (xs = xs') = r := ⟨_, rfl⟩
    have HF := Lib.hid (hr.symm.trans HF.out)
    rw [hr]
    clear hr
    cases r
    all_goals
      go_wp2
      go_ret
      exact ⟨congrArg (fun b => Ending.returned (Value.bool b)) HF.out, hb⟩
open Classical in
/-- THE CONTRACT of the program's Equal -/
theorem equal_any (x y : V) (cs cs' : List Value) (w : World) (hx : x.At w w.heap.size cs) (hy : y.At w w.heap.size cs') :
    Calls Tryz.prog 30 #[.agg cs.toArray, .agg cs'.toArray] w fun e w' => e = .returned (.bool (decide (x = y))) ∧ Below w.heap.size w w' := eqAll _ x y cs cs' w (Nat.lt_succ_self _) hx hy
open Classical in
/-- THE CONTRACT of the document's Equal -/
theorem refEqual_any (x y : V) (cs cs' : List Value) (w : World) (hx : x.At w w.heap.size cs) (hy : y.At w w.heap.size cs') :
    Calls Tryz.prog 22 #[.agg cs.toArray, .agg cs'.toArray] w fun e w' => e = .returned (.bool (decide (x = y))) ∧ Below w.heap.size w w' := refEqual _ x y cs cs' w (Nat.lt_succ_self _) hx hy
end Go.Proofs.YtbjmakigdglghaaGreatDoor.Dd
