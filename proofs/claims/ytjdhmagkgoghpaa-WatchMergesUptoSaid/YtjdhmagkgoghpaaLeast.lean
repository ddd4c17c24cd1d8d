/- least: the place of the list whose head has the least stamp. -/
import Derived.Test.YtjdhmagkgoghpaaMg
import Derived.Test.YtjdhmagkgoghpaaAsks
import Derived.StillTailTactics
namespace Go.Proofs.Ytjdhmagkgoghpaa
set_option linter.unusedVariables false
open Go.RowKit
theorem earlier_any (w : World) (x y : Ch) : Calls Try.prog 23 #[.agg #[.int .i64 x.s, .string x.c, .string x.i, .int .i64 x.k], .agg #[.int .i64 y.s, .string y.c, .string y.i, .int .i64 y.k]] w fun e w' =>
    e = .returned (.bool (decide (x.s < y.s))) ∧ Below w.heap.size w w' := by
  go_enter Try.func23, Try.ntmps23
  go_wp2
  go_ret
  exact ⟨rfl, ((Below.refl _ _).alloc (Nat.le_refl _) _).alloc (by simp) _⟩
/-- a slice of slices of changes, read -/
def Rss (w : World) (B : Nat) (A : Option Addr) (ls : List (List Ch)) : Prop :=
  0 < ls.length → ∃ b off, A = some ⟨b, off, none⟩ ∧ b < B ∧ ∀ i l, ls[i]? = some l → ∃ A' c', w.cell? ⟨b, off + i, none⟩ = some (.slice A' l.length c') ∧ l.length ≤ c' ∧ Rd w B A' l
theorem Rss.below {w w' : World} {B : Nat} {A : Option Addr} {ls : List (List Ch)} (h : Rss w B A ls) (hb : Below B w w') : Rss w' B A ls := by
  intro hl
  obtain ⟨b, off, e, hB, hc⟩ := h hl
  refine ⟨b, off, e, hB, fun i l hi => ?_⟩
  obtain ⟨A', c', h1, h2, h3⟩ := hc i l hi
  exact ⟨A', c', (hb.cell (p := ⟨b, _, none⟩) hB).trans h1, h2, h3.below hb⟩
theorem Rss.more {w : World} {B B' : Nat} {A : Option Addr} {ls : List (List Ch)} (h : Rss w B A ls) (hB : B ≤ B') : Rss w B' A ls := by
  intro hl
  obtain ⟨b, off, e, hb, hc⟩ := h hl
  refine ⟨b, off, e, by omega, fun i l hi => ?_⟩
  obtain ⟨A', c', h1, h2, h3⟩ := hc i l hi
  exact ⟨A', c', h1, h2, h3.more hB⟩
def encAt : Option Nat → Int
  | none => -1
  | some j => j
theorem ret_int {a b : Int} (h : a = b) : Ending.returned (.int .i64 a) = .returned (.int .i64 b) := by rw [h]
set_option maxHeartbeats 1000000 in
theorem least_any (w : World) (A : Option Addr) (n c : Nat) (ls : List (List Ch)) (hl : ls.length = n) (hR : Rss w w.heap.size A ls) (hn : n ≤ 1048576) (ht : tot ls ≤ 16777216) :
    Calls Try.prog 24 #[.slice A n c, .func (.func 23) #[] #[]] w fun e w' => e = .returned (.int .i64 (encAt (leastAt ls n))) ∧ Below w.heap.size w w' := by
  have HL := Lib.hid hl
  clear hl
  have HT := Lib.hid ht
  clear ht
  go_enter Try.func24, Try.ntmps24
  go_wp2
  go_loopw [5, 10] (fun v i wr => ∃ k : Nat, k ≤ n ∧ i = .int .i64 k ∧ v = .int .i64 (encAt (leastAt ls k)) ∧ Below w.heap.size w wr) (fun _ i _ => n - (intOf i).toNat)
  case atStart => exact ⟨0, Nat.zero_le _, rfl, rfl, Below.refl _ _⟩
  case round =>
    obtain ⟨k, hk, rfl, rfl, hbel⟩ := hrel
    by_cases hlt : k < n
    · have hkl : k < ls.length := by have := HL.out; omega
      obtain ⟨b, off, rfl, hb, hc⟩ := hR (by omega)
      obtain ⟨l, hlk⟩ : ∃ l, ls[k]? = some l := ⟨_, List.getElem?_eq_getElem hkl⟩
      obtain ⟨A1, c1, p0, hc1, hrd1⟩ := hc k l hlk
      have q0 := (hbel.cell (p := ⟨b, _, none⟩) hb).trans p0
      have hll := len_le_tot hlk
      have hll2 := HT.out
      rcases l with _ | ⟨x, t⟩
      · have HE := Lib.hid (least_empty hlk)
        clear hlk hll hll2
        simp only [List.length_nil] at q0
        go_wp2
        go_quiet (fail)
        go_wp2
        go_roundw
        case rel => exact ⟨k + 1, by omega, by go_num, by rw [HE.out], bel_drewN hbel _⟩
        case measure => simp [intOf]; omega
      · cases h0 : leastAt ls k with
        | none =>
          have HE := Lib.hid (least_first hlk h0)
          clear hlk
          simp only [List.length_cons] at q0 hc1 hll
          simp only [encAt]
          go_wp2
          go_quiet (fail)
          go_wp2
          go_roundw
          case rel => exact ⟨k + 1, by omega, by go_num, by rw [HE.out], bel_drewN hbel _⟩
          case measure => simp [intOf]; omega
        | some j =>
          simp only [encAt]
          obtain ⟨hjk, y, r, hj, _⟩ := least_some (Nat.le_of_lt hkl) h0
          obtain ⟨A2, c2, u0, hc2, hrd2⟩ := hc j _ hj
          have w0 := (hbel.cell (p := ⟨b, _, none⟩) hb).trans u0
          have hjl := len_le_tot hj
          obtain ⟨b1, o1, rfl, hb1, hx1⟩ := hrd1 (by simp)
          obtain ⟨b2, o2, rfl, hb2, hx2⟩ := hrd2 (by simp)
          have hX := hx1 0 (by simp)
          have hY := hx2 0 (by simp)
          simp only [Nat.zero_mul, Nat.add_zero, List.getElem_cons_zero] at hX hY
          have x0 := (hbel.cell (p := ⟨b1, _, none⟩) hb1).trans hX.1
          have x1 := (hbel.cell (p := ⟨b1, _, none⟩) hb1).trans hX.2.1
          have x2 := (hbel.cell (p := ⟨b1, _, none⟩) hb1).trans hX.2.2.1
          have x3 := (hbel.cell (p := ⟨b1, _, none⟩) hb1).trans hX.2.2.2
          have y0 := (hbel.cell (p := ⟨b2, _, none⟩) hb2).trans hY.1
          have y1 := (hbel.cell (p := ⟨b2, _, none⟩) hb2).trans hY.2.1
          have y2 := (hbel.cell (p := ⟨b2, _, none⟩) hb2).trans hY.2.2.1
          have y3 := (hbel.cell (p := ⟨b2, _, none⟩) hb2).trans hY.2.2.2
          have hcase : (decide (x.s < y.s) = true ∧ leastAt ls (k + 1) = some k) ∨ (decide (x.s < y.s) = false ∧ leastAt ls (k + 1) = some j) := by
            by_cases h : x.s < y.s
            · exact .inl ⟨by simpa using h, least_less hlk h0 hj h⟩
            · exact .inr ⟨by simpa using h, least_not hlk h0 hj h⟩
          have HC := Lib.hid hcase
          simp only [List.length_cons] at q0 w0 hc1 hc2 hll hjl
          clear hcase hX hY hx1 hx2 hrd1 hrd2 hc u0 p0 hlk h0 hj hR
          have hbsz := hbel.size
          have hjn : j < n := by omega
          have hjn' : (j : Int) < (n : Int) := by omega
          go_wp2
          go_still_tail 17, (by kernel_rfl)
          have hwd : Below w.heap.size w wr.drew := hbel.drew
          have hsd : wr.heap.size = wr.drew.heap.size := rfl
          change wpList _ _ _ _ _ wr.drew
          rw [hsd] at hbsz
          clear hbel q0 w0 x0 x1 x2 x3 y0 y1 y2 y3 hsd
          generalize wr.drew = wd at hwd hbsz ⊢
          go_wp2_with fail
          refine (earlier_any wd x y).mono ?_
          rintro e w2 ⟨rfl, hb2'⟩
          have hw2 := hwd.trans (hb2'.mono hbsz)
          rcases HC.out with ⟨hd, he⟩ | ⟨hd, he⟩
          · rw [hd]
            have HE := Lib.hid he
            clear he HC hd
            go_wp2
            go_roundw
            case rel => exact ⟨k + 1, by omega, by go_num, by rw [HE.out], hw2⟩
            case measure => simp [intOf]; omega
          · rw [hd]
            have HE := Lib.hid he
            clear he HC hd
            go_wp2
            go_roundw
            case rel => exact ⟨k + 1, by omega, by go_num, by rw [HE.out], hw2⟩
            case measure => simp [intOf]; omega
    · go_wp2
      go_ret
      obtain rfl : k = n := by omega
      exact ⟨rfl, hbel⟩
end Go.Proofs.Ytjdhmagkgoghpaa
