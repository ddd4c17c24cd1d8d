/- Acts as data, a slice of them in memory, and the contract of few. -/
import Derived.Test.YtjdhmagkgoghpaaApp
namespace Go.Proofs.Ytjdhmagkgoghpaa
set_option linter.unusedVariables false
open Go.RowKit
structure Ac where
  st : Int
  ch : List Ch
  ask : Bool
  af : Int
  lim : Int
  inn : ByteArray
/-- the cells of an act at a place; its changes lie below block B -/
structure AcAt (w : World) (B b o : Nat) (A : Option Addr) (c : Nat) (x : Ac) : Prop where
  c0 : w.cell? ⟨b, o, none⟩ = some (.int .i64 x.st)
  c1 : w.cell? ⟨b, o + 1, none⟩ = some (.slice A x.ch.length c)
  c2 : w.cell? ⟨b, o + 2, none⟩ = some (.bool x.ask)
  c3 : w.cell? ⟨b, o + 3, none⟩ = some (.int .i64 x.af)
  c4 : w.cell? ⟨b, o + 4, none⟩ = some (.int .i64 x.lim)
  c5 : w.cell? ⟨b, o + 5, none⟩ = some (.string x.inn)
  rd : Rd w B A x.ch
  le : x.ch.length ≤ c
def Acts (w : World) (B : Nat) (A : Option Addr) (l : List Ac) : Prop :=
  0 < l.length → ∃ b off, A = some ⟨b, off, none⟩ ∧ b < B ∧ ∀ i (h : i < l.length), ∃ A' c', AcAt w B b (off + i * 6) A' c' l[i]
theorem AcAt.keep {w w' : World} {B b o : Nat} {A : Option Addr} {c : Nat} {x : Ac} (h : AcAt w B b o A c x) (hb : b < B) (hk : ∀ p : Addr, p.block < B → w'.cell? p = w.cell? p) : AcAt w' B b o A c x :=
  ⟨(hk ⟨b, _, none⟩ hb).trans h.c0, (hk ⟨b, _, none⟩ hb).trans h.c1, (hk ⟨b, _, none⟩ hb).trans h.c2, (hk ⟨b, _, none⟩ hb).trans h.c3, (hk ⟨b, _, none⟩ hb).trans h.c4, (hk ⟨b, _, none⟩ hb).trans h.c5, h.rd.keep hk, h.le⟩
def sumCh (l : List Ac) : Nat := (l.map fun x => x.ch.length).sum
theorem sumCh_take (l : List Ac) (k : Nat) (hk : k < l.length) : sumCh (l.take (k + 1)) = sumCh (l.take k) + (l[k]).ch.length := by
  unfold sumCh
  rw [List.take_succ_eq_append_getElem hk, List.map_append, List.sum_append]
  rfl
theorem sumCh_take_le (l : List Ac) (k : Nat) : sumCh (l.take k) ≤ sumCh l := by
  conv => rhs; rw [← List.take_append_drop k l]
  unfold sumCh
  rw [List.map_append, List.sum_append]
  omega
def fewB (l : List Ac) : Bool := decide (l.length ≤ 400 ∧ sumCh l ≤ 20000)
set_option maxHeartbeats 800000 in
theorem few_any (w : World) (A : Option Addr) (n c : Nat) (l : List Ac) (hl : l.length = n) (hA : Acts w w.heap.size A l) (hn : n ≤ 1048576) (hs : sumCh l ≤ 1048576) :
    Calls Try.prog 9 #[.slice A n c] w fun e w' => e = .returned (.bool (fewB l)) ∧ w = w' := by
  have HL := Lib.hid hl
  clear hl
  go_enter Try.func9, Try.ntmps9
  go_wp2
  go_loop [3, 4] (fun s i => ∃ k : Nat, k ≤ n ∧ i = .int .i64 k ∧ s = .int .i64 (sumCh (l.take k) : Nat)) (fun _ i => n - (intOf i).toNat)
  case atStart => exact ⟨0, Nat.zero_le _, rfl, rfl⟩
  case round =>
    obtain ⟨k, hk, rfl, rfl⟩ := hrel
    have h1 := sumCh_take_le l k
    by_cases hlt : k < n
    · have hkl : k < l.length := by have := HL.out; omega
      obtain ⟨b, off, rfl, hb, hx⟩ := hA (by omega)
      obtain ⟨A', c', hx⟩ := hx k hkl
      have h2 := sumCh_take l k hkl
      have h3 := sumCh_take_le l (k + 1)
      obtain ⟨x, hxx⟩ : ∃ x, l[k] = x := ⟨_, rfl⟩
      rw [hxx] at hx h2
      have g1 := hx.c1
      have h4 : sumCh (l.take k) + x.ch.length ≤ 1048576 := by omega
      have H2 := Lib.hid h2
      clear h2 h3 hxx hx
      obtain ⟨m, hm⟩ : ∃ m, x.ch.length = m := ⟨_, rfl⟩
      rw [hm] at g1 h4
      have HM := Lib.hid hm
      clear hm
      obtain ⟨t, ht⟩ : ∃ t, sumCh (l.take k) = t := ⟨_, rfl⟩
      rw [ht] at h1 h4 ⊢
      have HT := Lib.hid ht
      clear ht
      go_wp2
      go_round
      case rel => exact ⟨k + 1, by omega, by go_num, by rw [H2.out, HM.out, HT.out]; go_num⟩
      case measure => simp [intOf]; omega
    · have e : l.take k = l := List.take_of_length_le (by have := HL.out; omega)
      rw [e]
      clear h1
      obtain ⟨t, ht⟩ : ∃ t, sumCh l = t := ⟨_, rfl⟩
      rw [ht] at hs ⊢
      have HT := Lib.hid ht
      clear ht e
      by_cases h400 : n ≤ 400
      · by_cases h2 : t ≤ 20000
        · go_wp2
          go_ret
          refine ⟨?_, rfl⟩
          have : fewB l = true := by unfold fewB; rw [HL.out, HT.out]; simp; omega
          rw [this]
          simp
          first | done | omega
        · go_wp2
          go_ret
          refine ⟨?_, rfl⟩
          have : fewB l = false := by unfold fewB; rw [HL.out, HT.out]; simp; omega
          rw [this]
          simp
          first | done | omega
      · go_wp2
        go_ret
        refine ⟨?_, rfl⟩
        have : fewB l = false := by unfold fewB; rw [HL.out, HT.out]; simp; omega
        rw [this]
        simp
        first | done | omega
end Go.Proofs.Ytjdhmagkgoghpaa
