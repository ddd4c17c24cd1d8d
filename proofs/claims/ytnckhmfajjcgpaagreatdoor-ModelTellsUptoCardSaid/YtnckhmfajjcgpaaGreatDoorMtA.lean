/- A text that is characters one behind the other: what is decoded is written back as it was; no byte of a character of more than one byte is below 128. -/
import Derived.Lib.ValidLaws
import Derived.Lib.DecodeN
import Derived.Lib.RuneBytes
import Derived.Lib.MapLaws
import Derived.Lib.TrimUEq
import Derived.Lib.ItoaNum
import Derived.Test.YtnckhmfajjcgpaaGreatDoorProg
import Derived.WalkKit
import Derived.Below
import Derived.Laws.OwnMore
import Derived.Deep.AppendLies
import Derived.Deep.Draws
import Derived.Laws.Rows
import Derived.Maps.AppendAt
import Derived.RegionTactic
import Derived.OwnWalk
import Derived.Lib.Hide
import Derived.Deep.QuietTactic
import Derived.BigQuiet
import Derived.Laws.StructEq
import Derived.Sort.Walk0
set_option linter.unusedVariables false
set_option linter.unusedSimpArgs false
set_option linter.unusedSectionVars false
namespace Go.Proofs.YtnckhmfajjcgpaaGreatDoor.Mt
open Go.Lib
theorem decN_enc (n b0 b1 b2 b3 : Nat) (h0 : b0 < 256) (h1 : b1 < 256) (h2 : b2 < 256) (h3 : b3 < 256) (hn : 1 ≤ n) (hg : ¬ ((decodeN n b0 b1 b2 b3).1 = 65533 ∧ (decodeN n b0 b1 b2 b3).2 = 1)) :
    1 ≤ (decodeN n b0 b1 b2 b3).2 ∧ (decodeN n b0 b1 b2 b3).2 ≤ n ∧ (decodeN n b0 b1 b2 b3).2 ≤ 4 ∧ (decodeN n b0 b1 b2 b3).1 ≤ 1114111 ∧
    (b0 < 128 → decodeN n b0 b1 b2 b3 = (b0, 1)) ∧
    (128 ≤ b0 → 128 ≤ (decodeN n b0 b1 b2 b3).1 ∧ ∀ x ∈ [b0, b1, b2, b3].take (decodeN n b0 b1 b2 b3).2, 128 ≤ x) ∧
    encodeRuneZ ((decodeN n b0 b1 b2 b3).1 : Nat) = ([b0, b1, b2, b3].take (decodeN n b0 b1 b2 b3).2).map (fun x : Nat => (x : Int)) := by
  unfold decodeN at hg ⊢
  by_cases c0 : b0 < 128
  · simp only [if_pos c0] at hg ⊢
    refine ⟨by omega, by omega, by omega, by omega, fun _ => by first | rfl | trivial, fun h => by omega, ?_⟩
    rw [encodeRuneZ_one (by omega) (by omega)]
    simp
  · simp only [if_neg c0] at hg ⊢
    by_cases c1 : b0 / 32 = 6 ∧ (1 < n ∧ b1 / 64 = 2)
    · simp only [if_pos c1] at hg ⊢
      by_cases d1 : b0 % 32 * 64 + b1 % 64 ≥ 128
      · simp only [if_pos d1] at hg ⊢
        refine ⟨by omega, by omega, by omega, by omega, fun h => absurd h c0, fun _ => ⟨by omega, fun x hx => ?_⟩, ?_⟩
        · simp only [List.take_succ_cons, List.take_zero, List.mem_cons, List.not_mem_nil, or_false] at hx
          rcases hx with rfl | rfl <;> omega
        · rw [encodeRuneZ_two (by omega) (by omega)]
          simp only [List.take_succ_cons, List.take_zero, List.map_cons, List.map_nil, List.cons.injEq, and_true]
          refine ⟨by omega, by omega⟩
      · simp only [if_neg d1] at hg
        exact absurd (by simp) hg
    · simp only [if_neg c1] at hg ⊢
      by_cases c2 : b0 / 16 = 14 ∧ (1 < n ∧ b1 / 64 = 2) ∧ (2 < n ∧ b2 / 64 = 2)
      · simp only [if_pos c2] at hg ⊢
        by_cases d2 : b0 % 16 * 4096 + b1 % 64 * 64 + b2 % 64 ≥ 2048 ∧ (b0 % 16 * 4096 + b1 % 64 * 64 + b2 % 64 < 55296 ∨ (57344 ≤ b0 % 16 * 4096 + b1 % 64 * 64 + b2 % 64 ∧ b0 % 16 * 4096 + b1 % 64 * 64 + b2 % 64 ≤ 1114111))
        · simp only [if_pos d2] at hg ⊢
          refine ⟨by omega, by omega, by omega, by omega, fun h => absurd h c0, fun _ => ⟨by omega, fun x hx => ?_⟩, ?_⟩
          · simp only [List.take_succ_cons, List.take_zero, List.mem_cons, List.not_mem_nil, or_false] at hx
            rcases hx with rfl | rfl | rfl <;> omega
          · rw [encodeRuneZ_three (by omega)]
            simp only [List.take_succ_cons, List.take_zero, List.map_cons, List.map_nil, List.cons.injEq, and_true]
            refine ⟨by omega, by omega, by omega⟩
        · simp only [if_neg d2] at hg
          exact absurd (by simp) hg
      · simp only [if_neg c2] at hg ⊢
        by_cases c3 : b0 / 8 = 30 ∧ (1 < n ∧ b1 / 64 = 2) ∧ (2 < n ∧ b2 / 64 = 2) ∧ (3 < n ∧ b3 / 64 = 2)
        · simp only [if_pos c3] at hg ⊢
          by_cases d3 : b0 % 8 * 262144 + b1 % 64 * 4096 + b2 % 64 * 64 + b3 % 64 ≥ 65536 ∧ (b0 % 8 * 262144 + b1 % 64 * 4096 + b2 % 64 * 64 + b3 % 64 < 55296 ∨ (57344 ≤ b0 % 8 * 262144 + b1 % 64 * 4096 + b2 % 64 * 64 + b3 % 64 ∧ b0 % 8 * 262144 + b1 % 64 * 4096 + b2 % 64 * 64 + b3 % 64 ≤ 1114111))
          · simp only [if_pos d3] at hg ⊢
            refine ⟨by omega, by omega, by omega, by omega, fun h => absurd h c0, fun _ => ⟨by omega, fun x hx => ?_⟩, ?_⟩
            · simp only [List.take_succ_cons, List.take_zero, List.mem_cons, List.not_mem_nil, or_false] at hx
              rcases hx with rfl | rfl | rfl | rfl <;> omega
            · rw [encodeRuneZ_four (by omega) (by omega)]
              simp only [List.take_succ_cons, List.take_zero, List.map_cons, List.map_nil, List.cons.injEq, and_true]
              refine ⟨by omega, by omega, by omega, by omega⟩
          · simp only [if_neg d3] at hg
            exact absurd (by simp) hg
        · simp only [if_neg c3] at hg
          exact absurd (by simp) hg
theorem getD_lt (l : List UInt8) (i : Nat) : (l.getD i 0).toNat < 256 := UInt8.toNat_lt _
theorem take_getD : ∀ (k : Nat) (l : List UInt8), k ≤ l.length → k ≤ 4 → l.take k = [l.getD 0 0, l.getD 1 0, l.getD 2 0, l.getD 3 0].take k
  | 0, _, _, _ => by simp
  | 1, a :: _, _, _ => by simp
  | 2, a :: b :: _, _, _ => by simp
  | 3, a :: b :: c :: _, _, _ => by simp
  | 4, a :: b :: c :: d :: _, _, _ => by simp
  | 1, [], h, _ => by simp at h
  | 2, [], h, _ => by simp at h
  | 2, [_], h, _ => by simp at h
  | 3, [], h, _ => by simp at h
  | 3, [_], h, _ => by simp at h
  | 3, [_, _], h, _ => by simp at h
  | 4, [], h, _ => by simp at h
  | 4, [_], h, _ => by simp at h
  | 4, [_, _], h, _ => by simp at h
  | 4, [_, _, _], h, _ => by simp at h
  | n + 5, _, _, h => by omega
/-- a character of more than one byte has no byte below 128 -/
theorem dec_high (l : List UInt8) (hne : l ≠ []) (hv : ¬ ((decodeL l).1 = 65533 ∧ (decodeL l).2 = 1)) (h : 128 ≤ (l.getD 0 0).toNat) : 128 ≤ (decodeL l).1 ∧ ∀ x ∈ l.take (decodeL l).2, 128 ≤ x.toNat := by
  have hn : 1 ≤ l.length := by cases l with
    | nil => exact absurd rfl hne
    | cons a t => simp
  have hle := decodeL_le l hne
  rw [decodeL_N] at hv hle ⊢
  obtain ⟨h1, h2, h3, h4, _, h6, _⟩ := decN_enc l.length _ _ _ _ (getD_lt l 0) (getD_lt l 1) (getD_lt l 2) (getD_lt l 3) hn hv
  refine ⟨(h6 h).1, fun x hx => ?_⟩
  rw [take_getD _ l hle h3] at hx
  have := (h6 h).2 x.toNat ?_
  · exact this
  · rw [show [(l.getD 0 0).toNat, (l.getD 1 0).toNat, (l.getD 2 0).toNat, (l.getD 3 0).toNat] = [l.getD 0 0, l.getD 1 0, l.getD 2 0, l.getD 3 0].map UInt8.toNat from rfl, ← List.map_take]
    exact List.mem_map_of_mem hx
/-- a byte of a text, as it is written -/
def hexDigit (n : Nat) : UInt8 := if n < 10 then (48 + n).toUInt8 else (87 + n).toUInt8
def esc (c : UInt8) : List UInt8 :=
  if c.toNat = 34 ∨ c.toNat = 92 then [92, c]
  else if c.toNat = 8 then [92, 98]
  else if c.toNat = 9 then [92, 116]
  else if c.toNat = 10 then [92, 110]
  else if c.toNat = 12 then [92, 102]
  else if c.toNat = 13 then [92, 114]
  else if c.toNat < 32 then [92, 117, 48, 48, hexDigit (c.toNat / 16), hexDigit (c.toNat % 16)]
  else [c]
def escs (l : List UInt8) : List UInt8 := l.flatMap esc
def quo (l : List UInt8) : List UInt8 := 34 :: (escs l ++ [34])
/-- a character of a text, as it is written -/
def escR (r : Nat) : List UInt8 :=
  if r = 34 ∨ r = 92 then [92, r.toUInt8]
  else if r = 8 then [92, 98]
  else if r = 9 then [92, 116]
  else if r = 10 then [92, 110]
  else if r = 12 then [92, 102]
  else if r = 13 then [92, 114]
  else if r < 32 then [92, 117, 48, 48, hexDigit (r / 16), hexDigit (r % 16)]
  else encodeRune (r : Int)
theorem esc_high {x : UInt8} (h : 128 ≤ x.toNat) : esc x = [x] := by
  unfold esc
  rw [if_neg (by omega), if_neg (by omega), if_neg (by omega), if_neg (by omega), if_neg (by omega), if_neg (by omega), if_neg (by omega)]
theorem escs_high : ∀ {l : List UInt8}, (∀ x ∈ l, 128 ≤ x.toNat) → escs l = l
  | [], _ => rfl
  | x :: l, h => by
    have : escs (x :: l) = esc x ++ escs l := by simp [escs]
    rw [this, esc_high (h x (by simp)), escs_high fun y hy => h y (by simp [hy])]
    rfl
theorem escs_app (a b : List UInt8) : escs (a ++ b) = escs a ++ escs b := by simp [escs]
theorem encode_low {r : Nat} (h : r < 128) : encodeRune (r : Int) = [r.toUInt8] := by
  unfold encodeRune
  rw [encodeRuneZ_one (by omega) (by omega)]
  simp
/-- a character's writing is its bytes' -/
theorem esc_step (l : List UInt8) (hne : l ≠ []) (hv : ¬ ((decodeL l).1 = 65533 ∧ (decodeL l).2 = 1)) : escR (decodeL l).1 = escs (l.take (decodeL l).2) := by
  by_cases h : 128 ≤ (l.getD 0 0).toNat
  · obtain ⟨h1, h2⟩ := dec_high l hne hv h
    rw [escs_high h2, ← encode_decode l hne hv]
    unfold escR
    rw [if_neg (by omega), if_neg (by omega), if_neg (by omega), if_neg (by omega), if_neg (by omega), if_neg (by omega), if_neg (by omega)]
  · cases l with
    | nil => exact absurd rfl hne
    | cons b t =>
      have hb : b.toNat < 128 := by simpa using h
      rw [decodeL_ascii b t hb]
      have hbb : b.toNat.toUInt8 = b := by simp
      simp only [List.take_succ_cons, List.take_zero]
      have : escs [b] = esc b := by simp [escs]
      rw [this]
      unfold escR esc
      rw [hbb]
      have he : encodeRune ((b.toNat : Nat) : Int) = [b] := by rw [encode_low hb, hbb]
      rw [he]
theorem valid_step {l : List UInt8} (hne : l ≠ []) (h : validD l = true) : ¬ ((decodeL l).1 = 65533 ∧ (decodeL l).2 = 1) ∧ validD (l.drop (decodeL l).2) = true := by
  rw [validD_step l hne] at h
  split at h
  · cases h
  · exact ⟨by assumption, h⟩
end Go.Proofs.YtnckhmfajjcgpaaGreatDoor.Mt
namespace Go.Proofs.YtnckhmfajjcgpaaGreatDoor.Mt
open Go.Lib
theorem dec_len : ∀ (k n : Nat), n < 10 ^ (k + 1) → (decDigits n).length ≤ k + 1
  | 0, n, h => by
    rw [decDigits, dif_pos (by omega)]
    simp
  | k + 1, n, h => by
    rw [decDigits]
    by_cases h10 : n < 10
    · rw [dif_pos h10]
      simp
    · rw [dif_neg h10, List.length_append]
      have := dec_len k (n / 10) (by rw [Nat.pow_succ] at h; omega)
      simp only [List.length_singleton]
      omega
theorem itoa_len {i : Int} (h : -9223372036854775808 ≤ i ∧ i ≤ 9223372036854775807) : (itoa i).length ≤ 21 := by
  unfold itoa
  split
  · have := dec_len 19 i.natAbs (by omega)
    simp only [List.length_cons]
    omega
  · have := dec_len 19 i.toNat (by omega)
    omega
end Go.Proofs.YtnckhmfajjcgpaaGreatDoor.Mt
namespace Go.Proofs.YtnckhmfajjcgpaaGreatDoor.Mt
set_option linter.unusedVariables false
open Go.RowKit
theorem block_of_add (a : Addr) (n : Nat) : (a.add n).block = a.block := by unfold Addr.add; split <;> rfl
theorem add_of_add (a : Addr) (i j : Nat) : (a.add i).add j = a.add (i + j) := by
  unfold Addr.add
  by_cases hi : i = 0 <;> by_cases hj : j = 0 <;> simp [hi, hj, Nat.add_assoc]
theorem add_lit (b off n : Nat) : (⟨b, off, none⟩ : Addr).add n = ⟨b, off + n, none⟩ := by
  unfold Addr.add
  split
  · rename_i e; subst e; rfl
  · rfl
def Blk (w : World) (g : Nat) (t : TypeId) (cs : Array Value) : Prop := w.heap[g]? = some (.cells cs t (0, 0))
section
variable {w w' : World} {g : Nat} {t : TypeId} {cs : Array Value}
theorem Blk.lt (h : Blk w g t cs) : g < w.heap.size := by
  rcases Nat.lt_or_ge g w.heap.size with hlt | hge
  · exact hlt
  · unfold Blk at h; rw [Array.getElem?_eq_none hge] at h; cases h
theorem Blk.cell (h : Blk w g t cs) (i : Nat) : w.cell? ⟨g, i, none⟩ = cs[i]? := cell_of_row w g i cs t (0, 0) h
theorem Blk.frozen (h : Blk w g t cs) (i : Nat) : w.frozen? ⟨g, i, none⟩ = false := by
  unfold Blk at h
  simp [World.frozen?, h]
theorem Blk.new (w : World) (t : TypeId) (cs : Array Value) : Blk (w.alloc (.cells cs t)) w.heap.size t cs := heap_alloc_new w _
theorem Blk.drew (h : Blk w g t cs) : Blk w.drew g t cs := h
theorem Blk.drewN (h : Blk w g t cs) (n : Nat) : Blk (w.drewN n) g t cs := h
theorem Blk.alloc (h : Blk w g t cs) (o : Obj) : Blk (w.alloc o) g t cs := (Below.heap_alloc w o g h.lt).trans h
theorem Blk.set_ (h : Blk w g t cs) (i : Nat) (u : Value) : Blk (w.setCell ⟨g, i, none⟩ u) g t (cs.setIfInBounds i u) := by
  unfold Blk at h ⊢
  simp [World.setCell, Array.getElem?_modify, h]
theorem Blk.far (h : Blk w g t cs) {p : Addr} (hp : g ≠ p.block) (u : Value) : Blk (w.setCell p u) g t cs := (Below.heap_setCell w p u g hp).trans h
theorem Blk.below {B : Nat} (h : Blk w g t cs) (hb : Below B w w') (hg : g < B) : Blk w' g t cs := (hb.block g hg).trans h
theorem Blk.grown {row : Option Nat} (h : Blk w g t cs) (hb : w.grownBy w' row) (hg : some g ≠ row) : Blk w' g t cs := (hb.block g h.lt hg).trans h
theorem Blk.ne_ {g' : Nat} {t' : TypeId} {cs' : Array Value} (h : Blk w g t cs) (h' : Blk w g' t' cs') (hne : t ≠ t') : g ≠ g' := by
  rintro rfl
  unfold Blk at h h'
  rw [h] at h'
  injection h' with h'
  injection h' with _ ht
  exact hne ht
theorem own_blk_ne {base : Nat} {e : TypeId} {size n : Nat} {v : Value} {xs : List Value} (h : w.ownsRow base e size v n xs) (hg : Blk w g t cs) (hne : e ≠ t) : v.ownBlock ≠ some g := by
  rcases h.2 with ⟨rfl, _⟩ | ⟨g', cap, cur, rfl, _, hh, _⟩
  · simp [Value.ownBlock]
  · intro he
    have : g' = g := by simpa [Value.ownBlock] using he
    subst this
    exact Blk.ne_ (t := e) hh hg hne rfl
end
/-- these cells lie there -/
def CellsAt (w : World) (b o : Nat) (cs : List Value) : Prop := ∀ j u, cs[j]? = some u → w.cell? ⟨b, o + j, none⟩ = some u
section
variable {w w' : World} {B B' b o n : Nat} {cs : List Value} {α : Type}
theorem CellsAt.keep (h : CellsAt w b o cs) (hb : b < B) (hk : ∀ p : Addr, p.block < B → w'.cell? p = w.cell? p) : CellsAt w' b o cs := fun j u hu => (hk ⟨b, o + j, none⟩ hb).trans (h j u hu)
theorem CellsAt.app {cs' : List Value} (h : CellsAt w b o cs) (h' : CellsAt w b (o + cs.length) cs') : CellsAt w b o (cs ++ cs') := by
  intro j u hu
  rcases Nat.lt_or_ge j cs.length with hj | hj
  · rw [List.getElem?_append_left hj] at hu
    exact h j u hu
  · rw [List.getElem?_append_right hj] at hu
    have := h' (j - cs.length) u hu
    rwa [show o + cs.length + (j - cs.length) = o + j by omega] at this
/-- a slice that reads as a list, below block B, each element n cells -/
def Lst (n : Nat) (R : α → List Value → Prop) (w : World) (B : Nat) (A : Option Addr) (l : List α) : Prop :=
  l.length ≤ 1048576 ∧ (0 < l.length → ∃ b off, A = some ⟨b, off, none⟩ ∧ b < B ∧ ∀ i (h : i < l.length), ∃ cs, cs.length = n ∧ CellsAt w b (off + i * n) cs ∧ R l[i] cs)
theorem Lst.nil {R : α → List Value → Prop} (A : Option Addr) : Lst n R w B A [] := ⟨by simp, fun h => by simp at h⟩
theorem Lst.keep {R R' : α → List Value → Prop} {A : Option Addr} {l : List α} (h : Lst n R w B A l) (hk : ∀ p : Addr, p.block < B → w'.cell? p = w.cell? p) (hR : ∀ x cs, R x cs → R' x cs) : Lst n R' w' B A l := by
  refine ⟨h.1, fun hl => ?_⟩
  obtain ⟨b, off, e, hb, hc⟩ := h.2 hl
  refine ⟨b, off, e, hb, fun i hi => ?_⟩
  obtain ⟨cs, h1, h2, h3⟩ := hc i hi
  exact ⟨cs, h1, h2.keep hb hk, hR _ _ h3⟩
theorem Lst.more {R : α → List Value → Prop} {A : Option Addr} {l : List α} (h : Lst n R w B A l) (hB : B ≤ B') : Lst n R w B' A l := ⟨h.1, fun hl => by
  obtain ⟨b, off, e, hb, hc⟩ := h.2 hl
  exact ⟨b, off, e, by omega, hc⟩⟩
theorem Lst.imp {R R' : α → List Value → Prop} {A : Option Addr} {l : List α} (h : Lst n R w B A l) (hR : ∀ x cs, R x cs → R' x cs) : Lst n R' w B A l := h.keep (fun _ _ => rfl) hR
end
def StrR (s : ByteArray) (cs : List Value) : Prop := cs = [.string s]
/-- these blocks are as listed -/
def Hold (w : World) (L : List (Nat × Obj)) : Prop := ∀ p ∈ L, w.heap[p.1]? = some p.2
theorem lt_of_some {w : World} {g : Nat} {o : Obj} (h : w.heap[g]? = some o) : g < w.heap.size := (Array.getElem?_eq_some_iff.1 h).1
section
variable {w w' : World} {L : List (Nat × Obj)} {p : Nat × Obj}
theorem Hold.nil (w : World) : Hold w [] := fun _ h => by cases h
theorem Hold.cons (h : Hold w L) (hp : w.heap[p.1]? = some p.2) : Hold w (p :: L) := fun q hq => by
  rcases List.mem_cons.1 hq with rfl | hq
  · exact hp
  · exact h q hq
theorem Hold.head (h : Hold w (p :: L)) : w.heap[p.1]? = some p.2 := h p (by simp)
theorem Hold.tail (h : Hold w (p :: L)) : Hold w L := fun q hq => h q (List.mem_cons_of_mem _ hq)
theorem Hold.lt (h : Hold w L) (hp : p ∈ L) : p.1 < w.heap.size := lt_of_some (h p hp)
theorem Hold.alloc (h : Hold w L) (o : Obj) : Hold (w.alloc o) L := fun p hp => (Below.heap_alloc w o p.1 (h.lt hp)).trans (h p hp)
theorem Hold.drewN (h : Hold w L) (n : Nat) : Hold (w.drewN n) L := h
theorem Hold.drew (h : Hold w L) : Hold w.drew L := h
theorem Hold.below {B : Nat} (h : Hold w L) (hb : Below B w w') (hB : ∀ p ∈ L, p.1 < B) : Hold w' L := fun p hp => (hb.block p.1 (hB p hp)).trans (h p hp)
theorem Hold.next (h : Hold w L) (hb : Below w.heap.size w w') : Hold w' L := h.below hb fun p hp => h.lt hp
theorem Hold.grown {row : Option Nat} (h : Hold w L) (hg : w.grownBy w' row) (hne : ∀ p ∈ L, some p.1 ≠ row) : Hold w' L := fun p hp => (hg.block p.1 (h.lt hp) (hne p hp)).trans (h p hp)
theorem Hold.append {L' : List (Nat × Obj)} (h : Hold w L) (h' : Hold w L') : Hold w (L ++ L') := fun p hp => by
  rcases List.mem_append.1 hp with hp | hp
  · exact h p hp
  · exact h' p hp
end
theorem take_step {α : Type} {l l' : List α} {k : Nat} (hk : k < l.length) (hk' : k < l'.length) (h : l.take k = l'.take k) (he : l[k] = l'[k]) : l.take (k + 1) = l'.take (k + 1) := by
  rw [List.take_succ_eq_append_getElem hk, List.take_succ_eq_append_getElem hk', h, he]
theorem ne_of_at {α : Type} {l l' : List α} {k : Nat} (hk : k < l.length) (hk' : k < l'.length) (he : l[k] ≠ l'[k]) : l ≠ l' := by
  rintro rfl
  exact he rfl
theorem eq_of_take {α : Type} {l l' : List α} (hl : l.length = l'.length) (h : l.take l.length = l'.take l.length) : l = l' := by
  rw [List.take_length, hl, List.take_length] at h
  exact h
theorem bytes_toList_inj {a b : ByteArray} (h : a.toList = b.toList) : a = b := by
  rw [ByteArray.toList_eq, ByteArray.toList_eq] at h
  obtain ⟨⟨x⟩⟩ := a
  obtain ⟨⟨y⟩⟩ := b
  have h' : x = y := h
  rw [h']
theorem bcell {w w' : World} {B : Nat} (h : Below B w w') : (∀ p : Addr, p.block < B → w'.cell? p = w.cell? p) ∧ (∀ p : Addr, p.block < B → w'.frozen? p = w.frozen? p) :=
  ⟨fun p hp => h.cell hp, fun p hp => World.frozen?_of_block (h.block p.block hp)⟩
theorem Lst.at_ {α : Type} {n : Nat} {R : α → List Value → Prop} {w W : World} {A : Option Addr} {l : List α} (h : Lst n R w w.heap.size A l) (hb : Below w.heap.size w W) : Lst n R W W.heap.size A l :=
  (h.keep (fun p hp => hb.cell hp) fun _ _ h => h).more hb.size
theorem bel_next {w W w' : World} (h : Below w.heap.size w W) (k : Below W.heap.size W w') : Below w.heap.size w w' :=
  ⟨k.os.trans h.os, k.tape.trans h.tape, k.output.trans h.output, Nat.le_trans h.size k.size, fun g hg => (k.block g (Nat.lt_of_lt_of_le hg h.size)).trans (h.block g hg)⟩
def Reads (w : World) (B size : Nat) (A : Option Addr) (n : Nat) (xs : List Value) : Prop :=
  xs.length = n * size ∧ (0 < n → ∃ ad, A = some ad ∧ ad.block < B ∧ ∀ j u, xs[j]? = some u → w.cell? (ad.add j) = some u)

section
variable {w w' : World} {B B' size n : Nat} {A : Option Addr} {xs : List Value}
theorem Reads.none_ : Reads w B size A 0 [] := ⟨by simp, fun h => absurd h (by omega)⟩
theorem Reads.at_ {k : Nat} (h : Reads w B 1 A n xs) (hk : k < n) : ∃ ad u, A = some ad ∧ ad.block < B ∧ xs[k]? = some u ∧ w.cell? (ad.add k) = some u := by
  obtain ⟨ad, e, hb, hc⟩ := h.2 (by omega)
  have hl : k < xs.length := by have := h.1; omega
  exact ⟨ad, xs[k], e, hb, List.getElem?_eq_getElem hl, hc k _ (List.getElem?_eq_getElem hl)⟩
theorem Reads.keep (h : Reads w B size A n xs) (hk : ∀ p : Addr, p.block < B → w'.cell? p = w.cell? p) : Reads w' B size A n xs :=
  ⟨h.1, fun hn => by
    obtain ⟨ad, e, hb, hc⟩ := h.2 hn
    exact ⟨ad, e, hb, fun j u hu => (hk _ (by rw [block_of_add]; exact hb)).trans (hc j u hu)⟩⟩
theorem Reads.more (h : Reads w B size A n xs) (hB : B ≤ B') : Reads w B' size A n xs :=
  ⟨h.1, fun hn => by
    obtain ⟨ad, e, hb, hc⟩ := h.2 hn
    exact ⟨ad, e, by omega, hc⟩⟩
theorem Reads.below (h : Reads w B size A n xs) (hb : Below B w w') : Reads w' B size A n xs := h.keep fun _ hp => hb.cell hp
theorem Reads.drew (h : Reads w B size A n xs) : Reads w.drew B size A n xs := h
theorem Reads.drewN (h : Reads w B size A n xs) (k : Nat) : Reads (w.drewN k) B size A n xs := h
theorem Reads.alloc (h : Reads w B size A n xs) (hB : B ≤ w.heap.size) (o : Obj) : Reads (w.alloc o) B size A n xs := h.keep fun p hp => World.cell?_alloc_lt w o p (by omega)
theorem Reads.setCell (h : Reads w B size A n xs) {p : Addr} (hB : B ≤ p.block) (u : Value) : Reads (w.setCell p u) B size A n xs :=
  h.keep fun q hq => World.cell?_setCell_other w p q u (fun e => by subst e; omega)
theorem Reads.grown (h : Reads w B size A n xs) {row : Option Nat} (hg : w.grownBy w' row) (hB : B ≤ w.heap.size) (hr : ∀ g, row = some g → B ≤ g) : Reads w' B size A n xs :=
  h.keep fun p hp => World.cell?_of_block (hg.block p.block (by omega) (fun e => by have := hr _ e.symm; omega))
theorem Reads.cut (h : Reads w B size A n xs) {k cap : Nat} (hk : k ≤ n) (hc : n ≤ cap) :
    Reads w B size (if cap = k then A else A.map (·.add (k * size))) (n - k) (xs.drop (k * size)) := by
  refine ⟨by rw [List.length_drop, h.1, Nat.sub_mul], fun hn => ?_⟩
  obtain ⟨ad, rfl, hb, hcell⟩ := h.2 (by omega)
  rw [if_neg (by omega)]
  refine ⟨ad.add (k * size), rfl, by rw [block_of_add]; exact hb, fun j u hu => ?_⟩
  rw [add_of_add]
  exact hcell _ u (by rw [← hu, List.getElem?_drop])
theorem Reads.take {l : List ByteArray} (h : Reads w B 1 A n (l.map Value.string)) {p : Nat} (hp : p ≤ n) : Reads w B 1 A p ((l.take p).map Value.string) := by
  have hl : l.length = n := by have := h.1; simp at this; omega
  refine ⟨by simp; omega, fun hq => ?_⟩
  obtain ⟨ad, e, hb, hc⟩ := h.2 (by omega)
  refine ⟨ad, e, hb, fun j u hu => hc j u ?_⟩
  rw [List.map_take] at hu
  have hj : j < p := by
    rcases Nat.lt_or_ge j p with h | h
    · exact h
    · rw [List.getElem?_eq_none (by simp; omega)] at hu; cases hu
  rwa [List.getElem?_take_of_lt hj] at hu
theorem Reads.of_own {base : Nat} {e : TypeId} {c : Nat} (h : w.ownsRow base e size (.slice A n c) n xs) : Reads w w.heap.size size A n xs := by
  refine ⟨h.1, fun hn => ?_⟩
  obtain ⟨g, cap, hv, _, hlt⟩ := h.form hn
  have hA : A = some ⟨g, 0, none⟩ := by injection hv
  subst hA
  exact ⟨_, rfl, hlt, h.cells (g := g) rfl⟩
end
section
variable {P : Program} (w : World)

theorem run_append_of_nil (base : Nat) (t ty e : TypeId) (i : TypeInfo) (size : Nat) (ht : P.underlying t = some (.slice e)) (hi : P.info? e = some i)
    (v : Value) (n : Nat) (xs : List Value) (hown : w.ownsRow base e size v n xs) (c : Nat) : (Builtin.append_ #[t, t] ty #[v, .slice none 0 c]).run P w = .ok v w := by
  rcases hown.2 with ⟨rfl, rfl⟩ | ⟨g, cap, cur, rfl, _, _, hnc, _⟩
  · simp [Builtin.append_, run_underlying ht, sizeOf, typeInfo, hi, Builtin.lenOf, Builtin.firstCells]
  · simp [Builtin.append_, run_underlying ht, sizeOf, typeInfo, hi, Builtin.lenOf, Builtin.firstCells, hnc, storeCells]

theorem run_append_any (base : Nat) (t ty e : TypeId) (i : TypeInfo) (z : Value) (size bytes : Nat) (ht : P.underlying t = some (.slice e)) (hi : P.info? e = some i) (hz : i.zero = some z)
    (hsize : i.size = size) (hby : i.bytes = bytes) (hzs : z.cells.size = size) (hsz : 0 < size)
    (v : Value) (n : Nat) (xs : List Value) (hown : w.ownsRow base e size v n xs)
    (B : Nat) (A : Option Addr) (m c : Nat) (news : List Value) (hr : Reads w B size A m news) (h1 : ∀ u ∈ news, u.oneCell' = true)
    (h63 : n + m ≤ maxLen) (hbytes : (n + m) * bytes ≤ 140737488355328) (hbase : base ≤ w.heap.size) :
    ∃ v' w', (Builtin.append_ #[t, t] ty #[v, .slice A m c]).run P w = .ok v' w' ∧ w'.ownsRow base e size v' (n + m) (xs ++ news) ∧ w.grownBy w' v.ownBlock ∧
      (v'.ownBlock = v.ownBlock ∨ v'.ownBlock = some w.heap.size) := by
  rcases A with _ | ad
  · have hm : m = 0 := by
      rcases Nat.eq_zero_or_pos m with h0 | h0
      · exact h0
      · obtain ⟨ad, h, _⟩ := hr.2 h0
        cases h
    subst hm
    have hn : news = [] := List.eq_nil_of_length_eq_zero (by simpa using hr.1)
    subst hn
    exact ⟨v, w, run_append_of_nil w base t ty e i size ht hi v n xs hown c, by simpa using hown, World.grownBy.refl w _, .inl rfl⟩
  · have hcells : ∀ j u, news[j]? = some u → w.cell? (ad.add j) = some u := by
      intro j u hu
      rcases Nat.eq_zero_or_pos m with h0 | h0
      · subst h0
        have hn : news = [] := List.eq_nil_of_length_eq_zero (by simpa using hr.1)
        subst hn
        simp at hu
      · obtain ⟨ad', h, _, hc⟩ := hr.2 h0
        injection h with h
        subst h
        exact hc j u hu
    obtain ⟨v', w', hrun, h2, h3, _, h5⟩ := run_append_own_at (P := P) w base t ty e i z size bytes ht hi hz hsize hby hzs hsz v n xs hown ad m c news hr.1 hcells h1 h63 hbytes hbase
    exact ⟨v', w', hrun, h2, h3, h5⟩

theorem wp_append_any {o : Oper} {a : Act} {K : Act → World → Prop} {Q : Exit → Act → World → Prop} (s x : Operand) (t : TypeId)
    (ho : o.op = .call { callee := .builtin .append, args := #[s, x], argTypes := #[t, t] })
    (base : Nat) (e : TypeId) (i : TypeInfo) (z : Value) (size bytes : Nat) (ht : P.underlying t = some (.slice e)) (hi : P.info? e = some i) (hz : i.zero = some z)
    (hsize : i.size = size) (hby : i.bytes = bytes) (hzs : z.cells.size = size) (hsz : 0 < size)
    (v : Value) (n : Nat) (xs : List Value) (hs : a.eval s = v) (hown : w.ownsRow base e size v n xs)
    (B : Nat) (A : Option Addr) (m c : Nat) (news : List Value) (hx : a.eval x = .slice A m c) (hr : Reads w B size A m news) (h1 : ∀ u ∈ news, u.oneCell' = true)
    (h63 : n + m ≤ maxLen) (hbytes : (n + m) * bytes ≤ 140737488355328) (hbase : base ≤ w.heap.size)
    (h : ∀ v' w', w'.ownsRow base e size v' (n + m) (xs ++ news) → w.grownBy w' v.ownBlock → (v'.ownBlock = v.ownBlock ∨ v'.ownBlock = some w.heap.size) → K (a.put o.dst v') w') : o.wp P a w K Q := by
  obtain ⟨v', w', hrun, h2, h3, h4⟩ := run_append_any (P := P) w base t o.type e i z size bytes ht hi hz hsize hby hzs hsz v n xs hown B A m c news hr h1 h63 hbytes hbase
  unfold Oper.wp execOp
  simp only [ho, resolve, invoke, builtin, Sem.run_bind, Sem.run_pure, Result.andThen_ok, List.map_toArray, List.map_cons, List.map_nil, hs, hx, hrun]
  exact h v' w' h2 h3 h4

theorem wpList_append_any {ops : Array Oper} {rest : List Oper} {o : Oper} {a : Act} {Q : Exit → Act → World → Prop} (hgd : o.guard = none) (s x : Operand) (t : TypeId)
    (ho : o.op = .call { callee := .builtin .append, args := #[s, x], argTypes := #[t, t] })
    (base : Nat) (e : TypeId) (i : TypeInfo) (z : Value) (size bytes : Nat) (ht : P.underlying t = some (.slice e)) (hi : P.info? e = some i) (hz : i.zero = some z)
    (hsize : i.size = size) (hby : i.bytes = bytes) (hzs : z.cells.size = size) (hsz : 0 < size)
    (v : Value) (n : Nat) (xs : List Value) (hs : a.eval s = v) (hown : w.ownsRow base e size v n xs)
    (B : Nat) (A : Option Addr) (m c : Nat) (news : List Value) (hx : a.eval x = .slice A m c) (hr : Reads w B size A m news) (h1 : ∀ u ∈ news, u.oneCell' = true)
    (h63 : n + m ≤ maxLen) (hbytes : (n + m) * bytes ≤ 140737488355328) (hbase : base ≤ w.heap.size)
    (h : ∀ v' w', w'.ownsRow base e size v' (n + m) (xs ++ news) → w.grownBy w' v.ownBlock → (v'.ownBlock = v.ownBlock ∨ v'.ownBlock = some w.heap.size) → wpList P ops Q rest (a.put o.dst v') w') : wpList P ops Q (o :: rest) a w :=
  wpList_plain hgd fun _ hK => wp_append_any w s x t ho base e i z size bytes ht hi hz hsize hby hzs hsz v n xs hs hown B A m c news hx hr h1 h63 hbytes hbase fun v' w' h2 h3 h4 => hK _ _ (h v' w' h2 h3 h4)

theorem step_append_any {ops : Array Oper} {o : Oper} {a : Act} {K : Act → World → Prop} {Q : Exit → Act → World → Prop} {E : Prop} (hgd : o.guard = none) (s x : Operand) (t : TypeId)
    (ho : o.op = .call { callee := .builtin .append, args := #[s, x], argTypes := #[t, t] })
    (base : Nat) (e : TypeId) (i : TypeInfo) (z : Value) (size bytes : Nat) (ht : P.underlying t = some (.slice e)) (hi : P.info? e = some i) (hz : i.zero = some z)
    (hsize : i.size = size) (hby : i.bytes = bytes) (hzs : z.cells.size = size) (hsz : 0 < size)
    (v : Value) (n : Nat) (xs : List Value) (hs : a.eval s = v) (hown : w.ownsRow base e size v n xs)
    (B : Nat) (A : Option Addr) (m c : Nat) (news : List Value) (hx : a.eval x = .slice A m c) (hr : Reads w B size A m news) (h1 : ∀ u ∈ news, u.oneCell' = true)
    (h63 : n + m ≤ maxLen) (hbytes : (n + m) * bytes ≤ 140737488355328) (hbase : base ≤ w.heap.size)
    (h : ∀ v' w', w'.ownsRow base e size v' (n + m) (xs ++ news) → w.grownBy w' v.ownBlock → (v'.ownBlock = v.ownBlock ∨ v'.ownBlock = some w.heap.size) → K (a.put o.dst v') w') :
    if Region.wanted o (yielded ops a.tmps) = true then Oper.wp P o a w K Q else E := by
  have hw : Region.wanted o (yielded ops a.tmps) = true := by simp [Region.wanted, hgd]
  rw [if_pos hw]
  exact wp_append_any w s x t ho base e i z size bytes ht hi hz hsize hby hzs hsz v n xs hs hown B A m c news hx hr h1 h63 hbytes hbase h
end

theorem own_cap {w : World} {base n c k : Nat} {e : TypeId} {size : Nat} {A : Option Addr} {xs : List Value} (h : w.ownsRow base e size (.slice A n c) k xs) : c ≤ maxLen := by
  rcases h.2 with ⟨h, _⟩ | ⟨g, cap, cur, h, _, _, _, h2, _⟩
  · injection h with _ _ h
    omega
  · injection h with _ _ h
    omega
theorem rd_one {W : World} {g : Nat} {u : Value} (h : W.cell? ⟨g, 0, none⟩ = some u) : Reads W (g + 1) 1 (some ⟨g, 0, none⟩) 1 [u] :=
  ⟨rfl, fun _ => ⟨_, rfl, Nat.lt_succ_self _, fun j v hv => by
    match j, hv with
    | 0, hv =>
      injection hv with hv
      subst hv
      exact h⟩⟩
theorem bel_drewN2 {B : Nat} {w w' : World} (h : Below B w w') (n : Nat) : Below B w (w'.drewN n) := ⟨h.os, h.tape, h.output, h.size, h.block⟩
end Go.Proofs.YtnckhmfajjcgpaaGreatDoor.Mt
namespace Go.Proofs.YtnckhmfajjcgpaaGreatDoor.Mt
set_option linter.unusedVariables false
open Go.RowKit
/-- A value of the store, as data. -/
inductive V where
  | mk (k i : Int) (t : ByteArray) (ns : List ByteArray) (xs : List V)
mutual
def V.At (w : World) (B : Nat) : V → List Value → Prop
  | .mk k i t ns xs, cs => ∃ An cn Ai ci, cs = [.int .i64 k, .int .i64 i, .string t, .slice An ns.length cn, .slice Ai xs.length ci] ∧ (Lst 1 StrR w B An ns ∧ ns.length ≤ cn) ∧
      xs.length ≤ 1048576 ∧ (0 < xs.length → ∃ b off, Ai = some ⟨b, off, none⟩ ∧ b < B ∧ V.Ats w B xs b off)
def V.Ats (w : World) (B : Nat) : List V → Nat → Nat → Prop
  | [], _, _ => True
  | x :: l, b, off => (∃ cs, cs.length = 5 ∧ CellsAt w b off cs ∧ V.At w B x cs) ∧ V.Ats w B l b (off + 5)
end
theorem V.ats_iff (w : World) (B b : Nat) : ∀ (l : List V) (off : Nat), V.Ats w B l b off ↔ ∀ i (h : i < l.length), ∃ cs, cs.length = 5 ∧ CellsAt w b (off + i * 5) cs ∧ V.At w B l[i] cs
  | [], off => by simp [V.Ats]
  | x :: l, off => by
    rw [V.Ats, V.ats_iff w B b l]
    constructor
    · rintro ⟨h0, h⟩ i hi
      cases i with
      | zero => simpa using h0
      | succ i =>
        obtain ⟨cs, h1, h2, h3⟩ := h i (by simpa using hi)
        exact ⟨cs, h1, by rw [show off + (i + 1) * 5 = off + 5 + i * 5 by omega]; exact h2, by simpa using h3⟩
    · intro h
      refine ⟨h 0 (by simp), fun i hi => ?_⟩
      obtain ⟨cs, h1, h2, h3⟩ := h (i + 1) (by simpa using hi)
      exact ⟨cs, h1, by rw [show off + 5 + i * 5 = off + (i + 1) * 5 by omega]; exact h2, by simpa using h3⟩
/-- A value's cells, opened. -/
theorem V.at_mk (w : World) (B : Nat) (k i : Int) (t : ByteArray) (ns : List ByteArray) (xs : List V) (cs : List Value) :
    V.At w B (.mk k i t ns xs) cs ↔ ∃ An cn Ai ci, cs = [.int .i64 k, .int .i64 i, .string t, .slice An ns.length cn, .slice Ai xs.length ci] ∧ (Lst 1 StrR w B An ns ∧ ns.length ≤ cn) ∧ Lst 5 (V.At w B) w B Ai xs := by
  rw [V.At]
  constructor
  · rintro ⟨An, cn, Ai, ci, h1, h2, h0, h3⟩
    refine ⟨An, cn, Ai, ci, h1, h2, h0, fun hl => ?_⟩
    obtain ⟨b, off, e, hb, h⟩ := h3 hl
    exact ⟨b, off, e, hb, (V.ats_iff w B b xs off).1 h⟩
  · rintro ⟨An, cn, Ai, ci, h1, h2, h3⟩
    refine ⟨An, cn, Ai, ci, h1, h2, h3.1, fun hl => ?_⟩
    obtain ⟨b, off, e, hb, h⟩ := h3.2 hl
    exact ⟨b, off, e, hb, (V.ats_iff w B b xs off).2 h⟩
theorem V.at_len {w : World} {B : Nat} {x : V} {cs : List Value} (h : V.At w B x cs) : cs.length = 5 := by
  cases x
  rw [V.at_mk] at h
  obtain ⟨_, _, _, _, rfl, _⟩ := h
  rfl
section
variable {w w' : World} {B B' : Nat}
mutual
theorem V.At.keep (hB : B ≤ B') (hk : ∀ p : Addr, p.block < B → w'.cell? p = w.cell? p) : ∀ {x : V} {cs : List Value}, V.At w B x cs → V.At w' B' x cs
  | .mk k i t ns xs, cs, h => by
    rw [V.At] at h ⊢
    obtain ⟨An, cn, Ai, ci, h1, h2, h0, h3⟩ := h
    refine ⟨An, cn, Ai, ci, h1, ⟨(h2.1.keep hk fun _ _ h => h).more hB, h2.2⟩, h0, fun hl => ?_⟩
    obtain ⟨b, off, e, hb, h⟩ := h3 hl
    exact ⟨b, off, e, by omega, V.Ats.keep hB hk hb h⟩
theorem V.Ats.keep (hB : B ≤ B') (hk : ∀ p : Addr, p.block < B → w'.cell? p = w.cell? p) {b : Nat} (hb : b < B) : ∀ {l : List V} {off : Nat}, V.Ats w B l b off → V.Ats w' B' l b off
  | [], _, _ => by rw [V.Ats]; trivial
  | x :: l, off, h => by
    rw [V.Ats] at h ⊢
    obtain ⟨⟨cs, h1, h2, h3⟩, h4⟩ := h
    exact ⟨⟨cs, h1, h2.keep hb hk, V.At.keep hB hk h3⟩, V.Ats.keep hB hk hb h4⟩
end
theorem V.At.below {x : V} {cs : List Value} (h : V.At w B x cs) (hb : Below B w w') : V.At w' B x cs := h.keep (Nat.le_refl _) fun _ hp => hb.cell hp
theorem V.At.more {x : V} {cs : List Value} (h : V.At w B x cs) (hB : B ≤ B') : V.At w B' x cs := h.keep hB fun _ _ => rfl
end
theorem Lst.str {w : World} {B : Nat} {A : Option Addr} {l : List ByteArray} {k : Nat} (h : Lst 1 StrR w B A l) (hk : k < l.length) : ∃ b off, A = some ⟨b, off, none⟩ ∧ b < B ∧ ∀ i (hi : i < l.length), w.cell? ⟨b, off + i, none⟩ = some (.string l[i]) := by
  obtain ⟨b, off, e, hb, hc⟩ := h.2 (by omega)
  refine ⟨b, off, e, hb, fun i hi => ?_⟩
  obtain ⟨cs, _, h2, h3⟩ := hc i hi
  have := h2 0 (.string l[i]) (by rw [h3]; rfl)
  rwa [Nat.mul_one] at this
theorem V.sizeOf_at {xs : List V} {k : Nat} (h : k < xs.length) : SizeOf.sizeOf xs[k] < SizeOf.sizeOf xs := List.sizeOf_lt_of_mem (List.getElem_mem h)
theorem V.At.form {w : World} {B : Nat} {x : V} {cs : List Value} (h : V.At w B x cs) : ∃ k i t An nn cn Ai ni ci, cs = [.int .i64 k, .int .i64 i, .string t, .slice An nn cn, .slice Ai ni ci] := by
  cases x
  rw [V.at_mk] at h
  obtain ⟨_, _, _, _, rfl, _⟩ := h
  exact ⟨_, _, _, _, _, _, _, _, _, rfl⟩
theorem Lst.val {w : World} {B : Nat} {A : Option Addr} {xs : List V} {k : Nat} (h : Lst 5 (V.At w B) w B A xs) (hk : k < xs.length) :
    ∃ b off c0 c1 c2 c3 c4, A = some ⟨b, off, none⟩ ∧ b < B ∧ xs[k].At w B [c0, c1, c2, c3, c4] ∧ w.cell? ⟨b, off + k * 5, none⟩ = some c0 ∧ w.cell? ⟨b, off + k * 5 + 1, none⟩ = some c1 ∧ w.cell? ⟨b, off + k * 5 + 2, none⟩ = some c2 ∧
      w.cell? ⟨b, off + k * 5 + 3, none⟩ = some c3 ∧ w.cell? ⟨b, off + k * 5 + 4, none⟩ = some c4 := by
  obtain ⟨b, off, e, hb, hc⟩ := h.2 (by omega)
  obtain ⟨cs, h1, h2, h3⟩ := hc k hk
  match cs, h1 with
  | [c0, c1, c2, c3, c4], _ => exact ⟨b, off, c0, c1, c2, c3, c4, e, hb, h3, h2 0 _ rfl, h2 1 _ rfl, h2 2 _ rfl, h2 3 _ rfl, h2 4 _ rfl⟩
end Go.Proofs.YtnckhmfajjcgpaaGreatDoor.Mt
namespace Go.Proofs.YtnckhmfajjcgpaaGreatDoor.Mt
set_option linter.unusedVariables false
open Go.RowKit
theorem results_cell1 {fn : Func} {p : Tmp} {ty : TypeId} (h : fn.results = #[.cell p ty]) (tmps : Array Value) (P : Program) (w : World) :
    (results fn tmps).run P w =
      ((asAddr (tmps.getD p undef)).run P w).andThen fun a w₁ => ((loadVar ty a).run P w₁).andThen fun v w₂ => .ok v w₂ := by
  simp only [results, h]
  simp [Sem.run_bind, Result.andThen]
  cases (asAddr (tmps[p]?.getD undef)).run P w with
  | halt _ _ => rfl
  | ok a w => simp only []; cases (loadVar ty a).run P w <;> rfl
theorem of_any (w : World) (i : Int) : Calls Tryz.prog 15 #[.int .i64 i] w fun e w' => e = .returned (.agg #[.int .i64 3, .int .i64 i, .string ⟨#[]⟩, .slice none 0 0, .slice none 0 0]) ∧ Below w.heap.size w w' := by
  go_enter Tryz.func15, Tryz.ntmps15
  go_wp2
  refine bodyPost_ret (v := .agg #[.int .i64 3, .int .i64 i, .string ⟨#[]⟩, .slice none 0 0, .slice none 0 0]) (by rw [results_cell1 rfl]; go_simp) rfl ?_
  exact ⟨rfl, (Below.refl w.heap.size w).alloc (Nat.le_refl _) _⟩
theorem whole_any (w : World) (i : Int) : Calls Tryz.prog 17 #[.int .i64 i] w fun e w' => e = .returned (.agg #[.int .i64 3, .int .i64 i, .string ⟨#[]⟩, .slice none 0 0, .slice none 0 0]) ∧ Below w.heap.size w w' := by
  go_enter Tryz.func17, Tryz.ntmps17
  go_wp2
  refine bodyPost_ret (v := .agg #[.int .i64 3, .int .i64 i, .string ⟨#[]⟩, .slice none 0 0, .slice none 0 0]) (by rw [results_cell1 rfl]; go_simp) rfl ?_
  exact ⟨rfl, (Below.refl w.heap.size w).alloc (Nat.le_refl _) _⟩
theorem word_any (w : World) (t : ByteArray) : Calls Tryz.prog 39 #[.string t] w fun e w' => e = .returned (.agg #[.int .i64 4, .int .i64 0, .string t, .slice none 0 0, .slice none 0 0]) ∧ Below w.heap.size w w' := by
  go_enter Tryz.func39, Tryz.ntmps39
  go_wp2
  refine bodyPost_ret (v := .agg #[.int .i64 4, .int .i64 0, .string t, .slice none 0 0, .slice none 0 0]) (by rw [results_cell1 rfl]; go_simp) rfl ?_
  exact ⟨rfl, (Below.refl w.heap.size w).alloc (Nat.le_refl _) _⟩
theorem rword_any (w : World) (t : ByteArray) : Calls Tryz.prog 42 #[.string t] w fun e w' => e = .returned (.agg #[.int .i64 4, .int .i64 0, .string t, .slice none 0 0, .slice none 0 0]) ∧ Below w.heap.size w w' := by
  go_enter Tryz.func42, Tryz.ntmps42
  go_wp2
  refine bodyPost_ret (v := .agg #[.int .i64 4, .int .i64 0, .string t, .slice none 0 0, .slice none 0 0]) (by rw [results_cell1 rfl]; go_simp) rfl ?_
  exact ⟨rfl, (Below.refl w.heap.size w).alloc (Nat.le_refl _) _⟩
theorem flag_any (w : World) (b : Bool) : Calls Tryz.prog 20 #[.bool b] w fun e w' => e = .returned (.agg #[.int .i64 (if b = true then 2 else 1), .int .i64 0, .string ⟨#[]⟩, .slice none 0 0, .slice none 0 0]) ∧ Below w.heap.size w w' := by
  cases b
  · go_enter Tryz.func20, Tryz.ntmps20
    go_wp2
    refine bodyPost_ret (v := .agg #[.int .i64 1, .int .i64 0, .string ⟨#[]⟩, .slice none 0 0, .slice none 0 0]) (by rw [results_cell1 rfl]; go_simp) rfl ?_
    exact ⟨rfl, (Below.refl w.heap.size w).alloc (Nat.le_refl _) _⟩
  · go_enter Tryz.func20, Tryz.ntmps20
    go_wp2
    refine bodyPost_ret (v := .agg #[.int .i64 2, .int .i64 0, .string ⟨#[]⟩, .slice none 0 0, .slice none 0 0]) (by rw [results_cell1 rfl]; go_simp) rfl ?_
    exact ⟨rfl, (Below.refl w.heap.size w).alloc (Nat.le_refl _) _⟩
theorem rtruth_any (w : World) (b : Bool) : Calls Tryz.prog 22 #[.bool b] w fun e w' => e = .returned (.agg #[.int .i64 (if b = true then 2 else 1), .int .i64 0, .string ⟨#[]⟩, .slice none 0 0, .slice none 0 0]) ∧ Below w.heap.size w w' := by
  cases b
  · go_enter Tryz.func22, Tryz.ntmps22
    go_wp2
    refine bodyPost_ret (v := .agg #[.int .i64 1, .int .i64 0, .string ⟨#[]⟩, .slice none 0 0, .slice none 0 0]) (by rw [results_cell1 rfl]; go_simp) rfl ?_
    exact ⟨rfl, (Below.refl w.heap.size w).alloc (Nat.le_refl _) _⟩
  · go_enter Tryz.func22, Tryz.ntmps22
    go_wp2
    refine bodyPost_ret (v := .agg #[.int .i64 2, .int .i64 0, .string ⟨#[]⟩, .slice none 0 0, .slice none 0 0]) (by rw [results_cell1 rfl]; go_simp) rfl ?_
    exact ⟨rfl, (Below.refl w.heap.size w).alloc (Nat.le_refl _) _⟩
theorem r16truth_any (w : World) (b : Bool) : Calls Tryz.prog 36 #[.bool b] w fun e w' => e = .returned (.agg #[.int .i64 (if b = true then 2 else 1), .int .i64 0, .string ⟨#[]⟩, .slice none 0 0, .slice none 0 0]) ∧ Below w.heap.size w w' := by
  cases b
  · go_enter Tryz.func36, Tryz.ntmps36
    go_wp2
    refine bodyPost_ret (v := .agg #[.int .i64 1, .int .i64 0, .string ⟨#[]⟩, .slice none 0 0, .slice none 0 0]) (by rw [results_cell1 rfl]; go_simp) rfl ?_
    exact ⟨rfl, (Below.refl w.heap.size w).alloc (Nat.le_refl _) _⟩
  · go_enter Tryz.func36, Tryz.ntmps36
    go_wp2
    refine bodyPost_ret (v := .agg #[.int .i64 2, .int .i64 0, .string ⟨#[]⟩, .slice none 0 0, .slice none 0 0]) (by rw [results_cell1 rfl]; go_simp) rfl ?_
    exact ⟨rfl, (Below.refl w.heap.size w).alloc (Nat.le_refl _) _⟩
theorem robject_any (w : World) (A A2 : Option Addr) (n c m c2 : Nat) : Calls Tryz.prog 41 #[.slice A n c, .slice A2 m c2] w fun e w' => e = .returned (.agg #[.int .i64 6, .int .i64 0, .string ⟨#[]⟩, .slice A n c, .slice A2 m c2]) ∧ Below w.heap.size w w' := by
  go_enter Tryz.func41, Tryz.ntmps41
  go_wp2
  refine bodyPost_ret (v := .agg #[.int .i64 6, .int .i64 0, .string ⟨#[]⟩, .slice A n c, .slice A2 m c2]) (by rw [results_cell1 rfl]; go_simp) rfl ?_
  exact ⟨rfl, (Below.refl w.heap.size w).alloc (Nat.le_refl _) _⟩
theorem rlist_any (w : World) (A : Option Addr) (n c : Nat) : Calls Tryz.prog 43 #[.slice A n c] w fun e w' => e = .returned (.agg #[.int .i64 5, .int .i64 0, .string ⟨#[]⟩, .slice none 0 0, .slice A n c]) ∧ Below w.heap.size w w' := by
  go_enter Tryz.func43, Tryz.ntmps43
  go_wp2
  refine bodyPost_ret (v := .agg #[.int .i64 5, .int .i64 0, .string ⟨#[]⟩, .slice none 0 0, .slice A n c]) (by rw [results_cell1 rfl]; go_simp) rfl ?_
  exact ⟨rfl, (Below.refl w.heap.size w).alloc (Nat.le_refl _) _⟩
end Go.Proofs.YtnckhmfajjcgpaaGreatDoor.Mt
namespace Go.Proofs.YtnckhmfajjcgpaaGreatDoor.Mt
set_option linter.unusedVariables false
open Go.RowKit
/-- what a cell held it still holds -/
def Mono (w w' : World) : Prop := ∀ p u, w.cell? p = some u → w'.cell? p = some u
section
variable {w w' : World} {B B' b o n : Nat} {cs : List Value} {α : Type}
theorem CellsAt.mono (h : CellsAt w b o cs) (hm : Mono w w') : CellsAt w' b o cs := fun j u hu => hm _ _ (h j u hu)
theorem Lst.mono {R R' : α → List Value → Prop} {A : Option Addr} {l : List α} (h : Lst n R w B A l) (hm : Mono w w') (hB : B ≤ B') (hR : ∀ x cs, R x cs → R' x cs) : Lst n R' w' B' A l := by
  refine ⟨h.1, fun hl => ?_⟩
  obtain ⟨b, off, e, hb, hc⟩ := h.2 hl
  refine ⟨b, off, e, by omega, fun i hi => ?_⟩
  obtain ⟨cs, h1, h2, h3⟩ := hc i hi
  exact ⟨cs, h1, h2.mono hm, hR _ _ h3⟩
mutual
theorem V.At.mono (hB : B ≤ B') (hm : Mono w w') : ∀ {x : V} {cs : List Value}, V.At w B x cs → V.At w' B' x cs
  | .mk k i t ns xs, cs, h => by
    rw [V.At] at h ⊢
    obtain ⟨An, cn, Ai, ci, h1, h2, h0, h3⟩ := h
    refine ⟨An, cn, Ai, ci, h1, ⟨h2.1.mono hm hB fun _ _ h => h, h2.2⟩, h0, fun hl => ?_⟩
    obtain ⟨b, off, e, hb, h⟩ := h3 hl
    exact ⟨b, off, e, by omega, V.Ats.mono hB hm h⟩
theorem V.Ats.mono (hB : B ≤ B') (hm : Mono w w') {b : Nat} : ∀ {l : List V} {off : Nat}, V.Ats w B l b off → V.Ats w' B' l b off
  | [], _, _ => by rw [V.Ats]; trivial
  | x :: l, off, h => by
    rw [V.Ats] at h ⊢
    obtain ⟨⟨cs, h1, h2, h3⟩, h4⟩ := h
    exact ⟨⟨cs, h1, h2.mono hm, V.At.mono hB hm h3⟩, V.Ats.mono hB hm h4⟩
end
end
theorem block_lt_of_cell {w : World} {p : Addr} {u : Value} (h : w.cell? p = some u) : p.block < w.heap.size := by
  rcases Nat.lt_or_ge p.block w.heap.size with hl | hl
  · exact hl
  · unfold World.cell? at h
    rw [Array.getElem?_eq_none hl] at h
    cases h
/-- the world of the blocks p alone -/
def only (p : Nat → Bool) (w : World) : World := { w with heap := w.heap.mapIdx fun i o => if p i = true then o else .map #[] 0 }
section
variable {w w' : World} {p q : Nat → Bool}
theorem only_size (p : Nat → Bool) (w : World) : (only p w).heap.size = w.heap.size := by simp [only]
theorem only_get {b : Nat} (h : p b = true) : (only p w).heap[b]? = w.heap[b]? := by
  simp only [only, Array.getElem?_mapIdx]
  cases w.heap[b]? with
  | none => rfl
  | some o => simp [h]
theorem only_off {a : Addr} (h : ¬ p a.block = true) : (only p w).cell? a = none := by
  unfold World.cell?
  simp only [only, Array.getElem?_mapIdx]
  cases w.heap[a.block]? with
  | none => rfl
  | some o => simp [h]
theorem only_sub (p : Nat → Bool) (w : World) : Mono (only p w) w := by
  intro a u hu
  by_cases h : p a.block = true
  · rwa [World.cell?_of_block (w := w) (w' := only p w) (only_get h)] at hu
  · rw [only_off h] at hu; cases hu
theorem only_mono (hk : ∀ b, p b = true → b < w.heap.size → q b = true ∧ w'.heap[b]? = w.heap[b]?) : Mono (only p w) (only q w') := by
  intro a u hu
  by_cases h : p a.block = true
  · rw [World.cell?_of_block (w := w) (w' := only p w) (only_get h)] at hu
    have hl := block_lt_of_cell hu
    obtain ⟨h1, h2⟩ := hk _ h hl
    rw [World.cell?_of_block (w := w') (w' := only q w') (only_get h1)]
    rwa [World.cell?_of_block h2]
  · rw [only_off h] at hu; cases hu
theorem mono_only (hk : ∀ b, b < w.heap.size → q b = true ∧ w'.heap[b]? = w.heap[b]?) : Mono w (only q w') := by
  intro a u hu
  have hl := block_lt_of_cell hu
  obtain ⟨h1, h2⟩ := hk _ hl
  rw [World.cell?_of_block (w := w') (w' := only q w') (only_get h1)]
  rwa [World.cell?_of_block h2]
theorem Mono.refl (w : World) : Mono w w := fun _ _ h => h
theorem Mono.trans {a b c : World} (h : Mono a b) (k : Mono b c) : Mono a c := fun p u hu => k p u (h p u hu)
theorem mono_below (h : Below w.heap.size w w') : Mono w w' := fun p u hu => (h.cell (block_lt_of_cell hu)).trans hu
/-- the blocks from B on -/
def new (B : Nat) (w : World) : World := only (fun b => decide (B ≤ b)) w
theorem new_size (B : Nat) (w : World) : (new B w).heap.size = w.heap.size := only_size _ _
theorem new_sub (B : Nat) (w : World) : Mono (new B w) w := only_sub _ _
theorem new_mono {B B' : Nat} (hB : B' ≤ B) (h : Below w.heap.size w w') : Mono (new B w) (new B' w') :=
  only_mono fun b hb hl => ⟨by simp only [decide_eq_true_eq] at hb ⊢; omega, h.block b hl⟩
end
/-- a list's cells in one row -/
def Flat {α : Type} (n : Nat) (R : α → List Value → Prop) (l : List α) (news : List Value) : Prop :=
  news.length = l.length * n ∧ ∀ j (h : j < l.length), ∃ cs, cs.length = n ∧ R l[j] cs ∧ ∀ i, i < n → news[j * n + i]? = cs[i]?
section
variable {w : World} {B n : Nat} {α : Type} {R R' : α → List Value → Prop} {A : Option Addr} {l : List α} {news : List Value}
theorem Flat.imp (h : Flat n R l news) (hR : ∀ x cs, R x cs → R' x cs) : Flat n R' l news :=
  ⟨h.1, fun j hj => by obtain ⟨cs, h1, h2, h3⟩ := h.2 j hj; exact ⟨cs, h1, hR _ _ h2, h3⟩⟩
theorem Flat.one (h : Flat n R l news) (hn : 0 < n) (ho : ∀ x cs, R x cs → ∀ u ∈ cs, u.oneCell' = true) : ∀ u ∈ news, u.oneCell' = true := by
  intro u hu
  obtain ⟨q, hq, rfl⟩ := List.getElem_of_mem hu
  have hj : q / n < l.length := Nat.div_lt_of_lt_mul (by rw [Nat.mul_comm, ← h.1]; exact hq)
  obtain ⟨cs, h1, h2, h3⟩ := h.2 (q / n) hj
  have hm : q % n < n := Nat.mod_lt _ hn
  have h4 := h3 (q % n) hm
  rw [show q / n * n + q % n = q by rw [Nat.mul_comm]; exact Nat.div_add_mod q n] at h4
  rw [List.getElem?_eq_getElem hq, List.getElem?_eq_getElem (by omega)] at h4
  injection h4 with h4
  rw [h4]
  exact ho _ _ h2 _ (List.getElem_mem _)
theorem Lst.flat (h : Lst n R w B A l) (hn : 0 < n) : ∃ news, Flat n R l news ∧ Reads w B n A l.length news := by
  rcases Nat.eq_zero_or_pos l.length with h0 | h0
  · refine ⟨[], ⟨by simp [h0], fun j hj => by omega⟩, ⟨by simp [h0], fun hp => by omega⟩⟩
  obtain ⟨b, off, e, hb, hc⟩ := h.2 h0
  have key : ∀ k, k ≤ l.length → ∃ news : List Value, news.length = k * n ∧ ∀ j (h : j < l.length), j < k → ∃ cs, cs.length = n ∧ CellsAt w b (off + j * n) cs ∧ R l[j] cs ∧ ∀ i, i < n → news[j * n + i]? = cs[i]? := by
    intro k
    induction k with
    | zero => intro _; exact ⟨[], by simp, fun j _ h => by omega⟩
    | succ k ih =>
      intro hk
      obtain ⟨news, hl, hh⟩ := ih (by omega)
      obtain ⟨cs, h1, h2, h3⟩ := hc k (by omega)
      refine ⟨news ++ cs, by rw [List.length_append, hl, h1, Nat.succ_mul], fun j hj hjk => ?_⟩
      rcases Nat.lt_or_ge j k with hlt | hge
      · obtain ⟨cs', k1, k2, k3, k4⟩ := hh j hj hlt
        refine ⟨cs', k1, k2, k3, fun i hi => ?_⟩
        rw [List.getElem?_append_left (by
          rw [hl]
          have : (j + 1) * n ≤ k * n := Nat.mul_le_mul_right n hlt
          rw [Nat.succ_mul] at this
          omega)]
        exact k4 i hi
      · have : j = k := by omega
        subst this
        refine ⟨cs, h1, h2, h3, fun i hi => ?_⟩
        rw [List.getElem?_append_right (by rw [hl]; omega), hl]
        congr 1
        omega
  obtain ⟨news, hl, hh⟩ := key l.length (Nat.le_refl _)
  refine ⟨news, ⟨hl, fun j hj => by obtain ⟨cs, h1, _, h3, h4⟩ := hh j hj hj; exact ⟨cs, h1, h3, h4⟩⟩, ⟨hl, fun _ => ⟨_, e, hb, fun q u hu => ?_⟩⟩⟩
  have hq : q < news.length := by
    rcases Nat.lt_or_ge q news.length with h | h
    · exact h
    · rw [List.getElem?_eq_none h] at hu; cases hu
  have hj : q / n < l.length := Nat.div_lt_of_lt_mul (by rw [Nat.mul_comm, ← hl]; exact hq)
  obtain ⟨cs, h1, h2, h3, h4⟩ := hh (q / n) hj hj
  have hm : q % n < n := Nat.mod_lt _ hn
  have hd : q / n * n + q % n = q := by rw [Nat.mul_comm]; exact Nat.div_add_mod q n
  have h5 := h4 (q % n) hm
  rw [hd, hu] at h5
  have h6 := h2 (q % n) u h5.symm
  rw [add_lit]
  rw [show off + q / n * n + q % n = off + q by omega] at h6
  exact h6
theorem own_lst {base : Nat} {e : TypeId} {v : Value} (h : w.ownsRow base e n v l.length news) (hf : Flat n R l news) (hm : l.length ≤ 1048576) : ∃ A c, v = .slice A l.length c ∧ l.length ≤ c ∧ c ≤ maxLen ∧ Lst n R w w.heap.size A l := by
  rcases h.2 with ⟨rfl, h0⟩ | ⟨g, cap, cur, rfl, hbase, hb, h1, h2, h3, h4⟩
  · refine ⟨none, 0, by rw [h0], by omega, Nat.zero_le _, hm, fun hp => by omega⟩
  · refine ⟨_, cap, rfl, h1, h2, hm, fun hp => ⟨g, 0, rfl, lt_of_some hb, fun i hi => ?_⟩⟩
    obtain ⟨cs, k1, k2, k3⟩ := hf.2 i hi
    refine ⟨cs, k1, fun j u hj => ?_, k2⟩
    have hjn : j < n := by
      rcases Nat.lt_or_ge j cs.length with h | h
      · omega
      · rw [List.getElem?_eq_none h] at hj; cases hj
    have hlt : i * n + j < l.length * n := by
      have : (i + 1) * n ≤ l.length * n := Nat.mul_le_mul_right n hi
      rw [Nat.succ_mul] at this
      omega
    have := h.cellAt (i * n + j) hlt
    rw [show 0 + i * n + j = i * n + j by omega, this, k3 j hjn, hj]
end
theorem V.At.one {w : World} {B : Nat} {x : V} {cs : List Value} (h : V.At w B x cs) : ∀ u ∈ cs, u.oneCell' = true := by
  obtain ⟨_, _, _, _, _, _, _, _, _, rfl⟩ := h.form
  simp [Value.oneCell']
theorem StrR.one {s : ByteArray} {cs : List Value} (h : StrR s cs) : ∀ u ∈ cs, u.oneCell' = true := by
  rw [h]
  simp [Value.oneCell']
/-- an owned row that is a list, in the blocks from its own base on -/
theorem own_lst_new {w : World} {n : Nat} {α : Type} {R : α → List Value → Prop} {l : List α} {news : List Value} {base : Nat} {e : TypeId} {v : Value} (h : w.ownsRow base e n v l.length news) (hf : Flat n R l news) (hm : l.length ≤ 1048576) :
    ∃ A c, v = .slice A l.length c ∧ l.length ≤ c ∧ c ≤ maxLen ∧ Lst n R (new base w) w.heap.size A l := by
  have h' : (new base w).ownsRow base e n v l.length news := by
    refine ⟨h.1, ?_⟩
    rcases h.2 with h0 | ⟨g, cap, cur, h1, h2, h3, h4⟩
    · exact .inl h0
    · exact .inr ⟨g, cap, cur, h1, h2, (only_get (by simpa using h2)).trans h3, h4⟩
  obtain ⟨A, c, h1, h2, h3, h4⟩ := own_lst h' hf hm
  rw [new_size] at h4
  exact ⟨A, c, h1, h2, h3, h4⟩
end Go.Proofs.YtnckhmfajjcgpaaGreatDoor.Mt
namespace Go.Proofs.YtnckhmfajjcgpaaGreatDoor.Mt
set_option linter.unusedVariables false
open Go.RowKit
set_option maxRecDepth 100000 in
set_option maxHeartbeats 4000000 in
theorem parts (m : Nat) : ∀ (x : V) (cs : List Value) (w : World) (most : Int), SizeOf.sizeOf x < m → x.At w w.heap.size cs →
    Calls Tryz.prog 4 #[.agg cs.toArray, .int .i64 most] w fun e w' => (∃ z, e = .returned (.int .i64 z)) ∧ Below w.heap.size w w' := by
  induction m with
  | zero => intro x cs w most h; omega
  | succ m ih =>
    rintro ⟨k, i, t, ns, xs⟩ cs w most hsz hx
    rw [V.at_mk] at hx
    obtain ⟨An, cn, Ai, ci, rfl, ⟨hns, hnc⟩, hxs⟩ := hx
    clear hnc
    have hxl : ∀ j (h : j < xs.length), SizeOf.sizeOf xs[j] < m := fun j h => by
      have := V.sizeOf_at h
      simp only [V.mk.sizeOf_spec] at hsz
      omega
    have HXL := Lib.hid hxl
    have HIH := Lib.hid ih
    obtain ⟨nn, hnn⟩ : ∃ n, ns.length = n := ⟨_, rfl⟩
    obtain ⟨ni, hni⟩ : ∃ n, xs.length = n := ⟨_, rfl⟩
    rw [hnn, hni]
    have b1 := hns.1
    have b3 := hxs.1
    rw [hnn] at b1
    rw [hni] at b3
    have HNI := Lib.hid hni
    have HXS := Lib.hid hxs
    clear hsz hxl ih hns hxs hnn hni
    go_enter Tryz.func4, Tryz.ntmps4
    go_wp2
    have hB := Blk.new w 29 #[.int .i64 k, .int .i64 i, .string t, .slice An nn cn, .slice Ai ni ci]
    have hb0 := (Below.refl w.heap.size w).alloc (Nat.le_refl _) (.cells #[.int .i64 k, .int .i64 i, .string t, .slice An nn cn, .slice Ai ni ci] 29)
    obtain ⟨w1, hw1⟩ : ∃ w1, w.alloc (.cells #[.int .i64 k, .int .i64 i, .string t, .slice An nn cn, .slice Ai ni ci] 29) = w1 := ⟨_, rfl⟩
    rw [hw1] at hB hb0 ⊢
    clear hw1
    go_loopw [5, 6] (fun v ix wr => ∃ (k0 : Nat) (z : Int), k0 ≤ ni ∧ ix = .int .i64 k0 ∧ v = .int .i64 z ∧ Below w.heap.size w wr ∧ Blk wr w.heap.size 29 #[.int .i64 k, .int .i64 i, .string t, .slice An nn cn, .slice Ai ni ci]) (fun _ i _ => ni - (intOf i).toNat)
    case atStart => exact ⟨0, _, Nat.zero_le _, rfl, rfl, hb0, hB⟩
    case round =>
      clear hB hb0
      obtain ⟨q, z, hq, rfl, rfl, hbel, hblk⟩ := hrel
      have c4 : wr.cell? ⟨w.heap.size, 4, none⟩ = some (.slice Ai ni ci) := hblk.cell 4
      have HBE := Lib.hid hbel
      have HBK := Lib.hid hblk
      by_cases hlt : q < ni
      · by_cases hz : z ≤ most
        · have hkl : q < xs.length := by have := HNI.out; omega
          obtain ⟨b, off, c0', c1', c2', c3', c4', rfl, hb, hV, q0, q1, q2, q3, q4⟩ := HXS.out.val hkl
          obtain ⟨g1, g2, g3, g4, g5, g6, g7, g8, g9, hform⟩ := hV.form
          injection hform with e0 hform
          injection hform with e1 hform
          injection hform with e2 hform
          injection hform with e3 hform
          injection hform with e4 hform
          subst e0 e1 e2 e3 e4
          have p0 := (hbel.cell (p := ⟨b, _, none⟩) hb).trans q0
          have p1 := (hbel.cell (p := ⟨b, _, none⟩) hb).trans q1
          have p2 := (hbel.cell (p := ⟨b, _, none⟩) hb).trans q2
          have p3 := (hbel.cell (p := ⟨b, _, none⟩) hb).trans q3
          have p4 := (hbel.cell (p := ⟨b, _, none⟩) hb).trans q4
          have hV1 := (hV.below hbel).more hbel.size
          have hxm := HXL.out q hkl
          have HC : ∀ most', Hid (Calls Tryz.prog 4 _ _ _) := fun most' => Lib.hid (HIH.out _ _ wr most' hxm hV1)
          clear hV hV1 hxm q0 q1 q2 q3 q4 hform hblk hbel
          go_wp2_with (first
            | (go_at_call 4
               refine (HC _).out.mono ?_
               rintro e w9 ⟨⟨z2, rfl⟩, hb9⟩)
            | go_in)
          go_roundw
          case rel => exact ⟨q + 1, _, by omega, by go_num, rfl, bel_next HBE.out hb9, HBK.out.below hb9 HBK.out.lt⟩
          case measure => simp [intOf]; omega
        · go_wp2
          go_ret
          exact ⟨⟨_, rfl⟩, hbel⟩
      · go_wp2
        go_ret
        exact ⟨⟨_, rfl⟩, hbel⟩
end Go.Proofs.YtnckhmfajjcgpaaGreatDoor.Mt
