/- The small functions that every statement on package watch reaches: their contracts. -/
import Derived.Test.YtjdhmagkgoghpaaMem
namespace Go.Proofs.Ytjdhmagkgoghpaa
set_option linter.unusedVariables false
open Go.RowKit
attribute [local go_sem ↓] run_neq_ch run_eql_ch
attribute [local go_sem] guard36
def sameL (xs ys : List Ch) : Bool := match xs, ys with
  | [], [] => true
  | x :: xs, y :: ys => chEq x.s x.c x.i x.k y.s y.c y.i y.k && sameL xs ys
  | _, _ => false
theorem sameL_iff (xs ys : List Ch) : sameL xs ys = true ↔ xs = ys := by
  induction xs generalizing ys with
  | nil => cases ys <;> simp [sameL]
  | cons x xs ih =>
    cases ys with
    | nil => simp [sameL]
    | cons y ys => simp [sameL, chEq_iff, ih]
theorem sameL_no {xs ys : List Ch} (h : xs ≠ ys) : sameL xs ys = false := by
  rw [← Bool.not_eq_true]; exact fun e => h ((sameL_iff _ _).1 e)
theorem ret_bool {a b : Bool} (h : a = b) : Ending.returned (.bool a) = .returned (.bool b) := by rw [h]
set_option maxHeartbeats 400000 in
theorem changes_ne (w : World) (A B : Option Addr) (n m c d : Nat) (hn : n ≤ 4611686018427387904) (hm : m ≤ 4611686018427387904) (h : n ≠ m) :
    Calls Try.prog 14 #[.slice A n c, .slice B m d] w fun e w' => e = .returned (.bool false) ∧ w = w' := by
  have h1 : ((n : Int) != (m : Int)) = true := by rw [bne_iff_ne]; omega
  clear h
  go_enter Try.func14, Try.ntmps14
  go_wp2
  go_ret
  exact ⟨rfl, rfl⟩
set_option maxHeartbeats 400000 in
theorem changes_eq (w : World) (A B : Option Addr) (n c d : Nat) (xs ys : List Ch) (hl1 : xs.length = n) (hl2 : ys.length = n) (K : Nat) (h1 : Rd w K A xs) (h2 : Rd w K B ys) (hn : n ≤ 4611686018427387904) :
    Calls Try.prog 14 #[.slice A n c, .slice B n d] w fun e w' => e = .returned (.bool (sameL xs ys)) ∧ ∃ k, w' = w.drewN k := by
  have H1 := Lib.hid hl1
  have H2 := Lib.hid hl2
  clear hl1 hl2
  go_enter Try.func14, Try.ntmps14
  go_wp2
  go_loopw [5] (fun i wr => ∃ k j : Nat, k ≤ n ∧ i = .int .i64 k ∧ xs.take k = ys.take k ∧ wr = w.drewN j) (fun i _ => n - (intOf i).toNat)
  case atStart => exact ⟨0, 0, Nat.zero_le _, rfl, rfl, rfl⟩
  case round =>
    obtain ⟨k, j, hk, rfl, he, rfl⟩ := hrel
    have HE := Lib.hid he
    clear he
    by_cases hlt : k < n
    · obtain ⟨b1, o1, rfl, hb1, hc1⟩ := h1 (by have := H1.out; omega)
      obtain ⟨b2, o2, rfl, hb2, hc2⟩ := h2 (by have := H2.out; omega)
      have hkx : k < xs.length := by have := H1.out; omega
      have hky : k < ys.length := by have := H2.out; omega
      obtain ⟨x, hx⟩ : ∃ x, xs[k] = x := ⟨_, rfl⟩
      obtain ⟨y, hy⟩ : ∃ y, ys[k] = y := ⟨_, rfl⟩
      have hX := hc1 k hkx
      have hY := hc2 k hky
      rw [hx] at hX
      rw [hy] at hY
      obtain ⟨p0, p1, p2, p3⟩ := hX
      obtain ⟨q0, q1, q2, q3⟩ := hY
      clear hc1 hc2 h1 h2
      have HX := Lib.hid hx
      have HY := Lib.hid hy
      clear hx hy
      go_wp2
      cases hq : chEq x.s x.c x.i x.k y.s y.c y.i y.k
      · go_quiet (fail)
        go_wp2
        go_ret
        have hne : x ≠ y := fun e => by rw [(chEq_iff x y).2 e] at hq; cases hq
        refine ⟨ret_bool (sameL_no fun e => hne ?_).symm, _, World.drewN_drewN _ _ _⟩
        rw [← HX.out, ← HY.out]
        subst e
        rfl
      · go_quiet (fail)
        go_wp2
        go_roundw
        case rel => 
          have e := (chEq_iff x y).1 hq
          refine ⟨k + 1, _, by omega, by go_num, ?_, rfl⟩
          rw [List.take_succ_eq_append_getElem hkx, List.take_succ_eq_append_getElem hky, HE.out, HX.out, HY.out, e]
        case measure => simp [intOf]; omega
    · go_wp2
      go_ret
      have he := HE.out
      rw [List.take_of_length_le (by have := H1.out; omega), List.take_of_length_le (by have := H2.out; omega)] at he
      exact ⟨ret_bool ((sameL_iff _ _).2 he).symm, _, rfl⟩

theorem ret3 {a b c a' b' c' : Value} (ha : a = a') (hb : b = b') (hc : c = c') : Ending.returned (.tuple #[a, b, c]) = .returned (.tuple #[a', b', c']) := by rw [ha, hb, hc]
theorem num_any (n : Int) (w : World) : Calls Try.prog 8 #[.int .i64 n] w fun e w' => e = .returned (.int .i64 n) ∧ w = w' := by
  go_enter Try.func8, Try.ntmps8
  go_wp2
  go_ret
  exact ⟨rfl, rfl⟩
theorem new_ok (n : Int) (w : World) (h1 : 1 ≤ n) (h2 : n ≤ 4096) : Calls Try.prog 7 #[.int .i64 n] w fun e w' =>
    e = .returned (.tuple #[.pointer (some ⟨w.heap.size, 0, none⟩), .int .i64 0]) ∧ w.alloc (.cells #[.int .i64 n, .slice none 0 0, .int .i64 0, .int .i64 0] 55) = w' := by
  go_enter Try.func7, Try.ntmps7
  go_wp2
  go_ret2
  exact ⟨rfl, rfl⟩
theorem new_no (n : Int) (w : World) (h : n < 1 ∨ 4096 < n) : Calls Try.prog 7 #[.int .i64 n] w fun e w' =>
    e = .returned (.tuple #[.pointer none, .int .i64 2]) ∧ w = w' := by
  rcases h with h | h
  · go_enter Try.func7, Try.ntmps7
    go_wp2
    go_ret2
    exact ⟨rfl, rfl⟩
  · have h' : 1 ≤ n := by omega
    go_enter Try.func7, Try.ntmps7
    go_wp2
    go_ret2
    exact ⟨rfl, rfl⟩
theorem refNew_ok (n : Int) (w : World) (h1 : 1 ≤ n) (h2 : n ≤ 4096) : Calls Try.prog 15 #[.int .i64 n] w fun e w' =>
    e = .returned (.tuple #[.agg #[.int .i64 n, .slice none 0 0, .int .i64 0, .int .i64 0], .int .i64 0]) ∧ Below w.heap.size w w' := by
  go_enter Try.func15, Try.ntmps15
  go_wp2
  exact bodyPost_ret (v := .tuple #[.agg #[.int .i64 n, .slice none 0 0, .int .i64 0, .int .i64 0], .int .i64 0]) (by simp [results, Try.results15, go_sem]) rfl ⟨rfl, (Below.refl _ _).alloc (Nat.le_refl _) _⟩
theorem refNew_no (n : Int) (w : World) (h : n < 1 ∨ 4096 < n) : Calls Try.prog 15 #[.int .i64 n] w fun e w' =>
    e = .returned (.tuple #[.agg #[.int .i64 0, .slice none 0 0, .int .i64 0, .int .i64 0], .int .i64 2]) ∧ Below w.heap.size w w' := by
  rcases h with h | h
  · go_enter Try.func15, Try.ntmps15
    go_wp2
    exact bodyPost_ret (v := .tuple #[.agg #[.int .i64 0, .slice none 0 0, .int .i64 0, .int .i64 0], .int .i64 2]) (by simp [results, Try.results15, go_sem]) rfl ⟨rfl, (Below.refl _ _).alloc (Nat.le_refl _) _⟩
  · have h' : 1 ≤ n := by omega
    go_enter Try.func15, Try.ntmps15
    go_wp2
    exact bodyPost_ret (v := .tuple #[.agg #[.int .i64 0, .slice none 0 0, .int .i64 0, .int .i64 0], .int .i64 2]) (by simp [results, Try.results15, go_sem]) rfl ⟨rfl, (Below.refl _ _).alloc (Nat.le_refl _) _⟩
section
variable (w : World) (g : Nat) (k a h : Int) (A : Option Addr) (n c : Nat) (hb : Blk w g 55 #[.int .i64 k, .slice A n c, .int .i64 a, .int .i64 h])
include hb
theorem last_any : Calls Try.prog 11 #[.pointer (some ⟨g, 0, none⟩)] w fun e w' => e = .returned (.int .i64 a) ∧ w = w' := by
  have h2 := hb.cell 2
  simp at h2
  clear hb
  go_enter Try.func11, Try.ntmps11
  go_wp2
  go_ret
  exact ⟨rfl, rfl⟩
theorem horizon_any : Calls Try.prog 18 #[.pointer (some ⟨g, 0, none⟩)] w fun e w' => e = .returned (.int .i64 h) ∧ w = w' := by
  have h2 := hb.cell 3
  simp at h2
  clear hb
  go_enter Try.func18, Try.ntmps18
  go_wp2
  go_ret
  exact ⟨rfl, rfl⟩
theorem size_any : Calls Try.prog 19 #[.pointer (some ⟨g, 0, none⟩)] w fun e w' => e = .returned (.int .i64 n) ∧ w = w' := by
  have h2 := hb.cell 1
  simp at h2
  clear hb
  go_enter Try.func19, Try.ntmps19
  go_wp2
  go_ret
  exact ⟨rfl, rfl⟩
end
theorem last_nil (w : World) : Calls Try.prog 11 #[.pointer none] w fun e w' => e = .returned (.int .i64 0) ∧ w = w' := by
  go_enter Try.func11, Try.ntmps11
  go_wp2
  go_ret
  exact ⟨rfl, rfl⟩
theorem horizon_nil (w : World) : Calls Try.prog 18 #[.pointer none] w fun e w' => e = .returned (.int .i64 0) ∧ w = w' := by
  go_enter Try.func18, Try.ntmps18
  go_wp2
  go_ret
  exact ⟨rfl, rfl⟩
theorem size_nil (w : World) : Calls Try.prog 19 #[.pointer none] w fun e w' => e = .returned (.int .i64 0) ∧ w = w' := by
  go_enter Try.func19, Try.ntmps19
  go_wp2
  go_ret
  exact ⟨rfl, rfl⟩
theorem with_nil (w : World) (s : Int) (v : Value) : Calls Try.prog 12 #[.pointer none, .int .i64 s, v] w fun e w' => e = .returned (.pointer none) ∧ w = w' := by
  go_enter Try.func12, Try.ntmps12
  go_wp2
  go_ret
  exact ⟨rfl, rfl⟩
theorem after_nil (w : World) (a l : Int) (v : Value) : Calls Try.prog 13 #[.pointer none, .int .i64 a, .int .i64 l, v] w fun e w' => e = .returned (.tuple #[.slice none 0 0, .int .i64 (max a 0), .int .i64 0]) ∧ w = w' := by
  go_enter Try.func13, Try.ntmps13
  go_wp2
  all_goals
    go_ret3
    refine ⟨ret3 rfl ?_ rfl, rfl⟩
    simp
    omega
end Go.Proofs.Ytjdhmagkgoghpaa
