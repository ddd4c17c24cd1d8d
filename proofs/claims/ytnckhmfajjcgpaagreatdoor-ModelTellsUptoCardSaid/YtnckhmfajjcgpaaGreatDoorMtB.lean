/- The document's Character and Clean, plain: Clean says what utf8.ValidString says. -/
import Derived.Test.YtnckhmfajjcgpaaGreatDoorMtA
import Derived.Lib.DecodeNEq
import Derived.Deep.CutRange
import Derived.Deep.CutBlock
import Derived.Lib.ValidLaws
set_option linter.unusedVariables false
set_option linter.unusedSimpArgs false
set_option linter.unusedSectionVars false
namespace Go.Proofs.YtnckhmfajjcgpaaGreatDoor.Mt
open Go.Lib
def chrLoop (n b1 b2 b3 sz lo hi : Nat) : Int :=
  if n ≤ 1 then -1 else if b1 < lo ∨ hi < b1 then 0 else if sz = 2 then 2
  else if n ≤ 2 then -1 else if b2 < 128 ∨ 191 < b2 then 0 else if sz = 3 then 3
  else if n ≤ 3 then -1 else if b3 < 128 ∨ 191 < b3 then 0 else 4
def chrN (n b0 b1 b2 b3 : Nat) : Int :=
  if b0 < 128 then 1
  else if 194 ≤ b0 ∧ b0 ≤ 223 then chrLoop n b1 b2 b3 2 128 191
  else if 224 ≤ b0 ∧ b0 ≤ 239 then (if b0 = 224 then chrLoop n b1 b2 b3 3 160 191 else if b0 = 237 then chrLoop n b1 b2 b3 3 128 159 else chrLoop n b1 b2 b3 3 128 191)
  else if 240 ≤ b0 ∧ b0 ≤ 244 then (if b0 = 240 then chrLoop n b1 b2 b3 4 144 191 else if b0 = 244 then chrLoop n b1 b2 b3 4 128 143 else chrLoop n b1 b2 b3 4 128 191)
  else 0
theorem loop_slow (n b0 b1 b2 b3 sz lo hi : Nat) (hn : 1 ≤ n) (hsz : sz = 2 ∨ sz = 3 ∨ sz = 4) :
    (0 < chrLoop n b1 b2 b3 sz lo hi → ((slowN n b0 b1 b2 b3 sz lo hi).2 : Int) = chrLoop n b1 b2 b3 sz lo hi ∧ 2 ≤ (slowN n b0 b1 b2 b3 sz lo hi).2) ∧
    (¬ 0 < chrLoop n b1 b2 b3 sz lo hi → slowN n b0 b1 b2 b3 sz lo hi = (65533, 1)) := by
  unfold chrLoop slowN
  rcases hsz with rfl | rfl | rfl
  all_goals
    refine ⟨fun h => ?_, fun h => ?_⟩
    · repeat' split at h
      all_goals first | (exfalso; omega) | skip
      all_goals
        repeat' split
        all_goals first | (exfalso; omega) | (refine ⟨by simp, by simp⟩) | (simp; omega)
    · repeat' split at h
      all_goals first | (exfalso; omega) | skip
      all_goals
        repeat' split
        all_goals first | rfl | (exfalso; omega)
theorem chr_dec (n b0 b1 b2 b3 : Nat) (hn : 1 ≤ n) (h0 : b0 < 256) (h1 : b1 < 256) (h2 : b2 < 256) (h3 : b3 < 256) :
    (0 < chrN n b0 b1 b2 b3 → ((decodeN n b0 b1 b2 b3).2 : Int) = chrN n b0 b1 b2 b3 ∧ ¬ ((decodeN n b0 b1 b2 b3).1 = 65533 ∧ (decodeN n b0 b1 b2 b3).2 = 1)) ∧
    (¬ 0 < chrN n b0 b1 b2 b3 → decodeN n b0 b1 b2 b3 = (65533, 1)) := by
  by_cases ca : b0 < 128
  · have e : decodeN n b0 b1 b2 b3 = (b0, 1) := by unfold decodeN; rw [if_pos ca]
    have f : chrN n b0 b1 b2 b3 = 1 := by unfold chrN; rw [if_pos ca]
    rw [e, f]
    exact ⟨fun _ => ⟨rfl, fun h => by have := h.1; simp only at this; omega⟩, fun h => absurd (by omega) h⟩
  · have of : ∀ sz lo hi, sz = 2 ∨ sz = 3 ∨ sz = 4 → slowN n b0 b1 b2 b3 sz lo hi = decodeN n b0 b1 b2 b3 → chrN n b0 b1 b2 b3 = chrLoop n b1 b2 b3 sz lo hi →
        (0 < chrN n b0 b1 b2 b3 → ((decodeN n b0 b1 b2 b3).2 : Int) = chrN n b0 b1 b2 b3 ∧ ¬ ((decodeN n b0 b1 b2 b3).1 = 65533 ∧ (decodeN n b0 b1 b2 b3).2 = 1)) ∧
        (¬ 0 < chrN n b0 b1 b2 b3 → decodeN n b0 b1 b2 b3 = (65533, 1)) := by
      intro sz lo hi hsz e1 e2
      obtain ⟨l1, l2⟩ := loop_slow n b0 b1 b2 b3 sz lo hi hn hsz
      rw [e1] at l1 l2
      rw [e2]
      exact ⟨fun h => ⟨(l1 h).1, fun hh => by have := (l1 h).2; omega⟩, l2⟩
    by_cases c1 : 194 ≤ b0 ∧ b0 < 224
    · exact of 2 128 191 (by omega) (slow_C2 n b0 b1 b2 b3 hn h1 h2 h3 c1) (by unfold chrN; rw [if_neg ca, if_pos (by omega)])
    · by_cases c2 : b0 = 224
      · exact of 3 160 191 (by omega) (slow_E0 n b0 b1 b2 b3 hn h1 h2 h3 c2) (by unfold chrN; rw [if_neg ca, if_neg (by omega), if_pos (by omega), if_pos c2])
      · by_cases c3 : b0 = 237
        · exact of 3 128 159 (by omega) (slow_ED n b0 b1 b2 b3 hn h1 h2 h3 c3) (by unfold chrN; rw [if_neg ca, if_neg (by omega), if_pos (by omega), if_neg c2, if_pos c3])
        · by_cases c4 : 225 ≤ b0 ∧ b0 < 240
          · exact of 3 128 191 (by omega) (slow_E1 n b0 b1 b2 b3 hn h1 h2 h3 (by omega)) (by unfold chrN; rw [if_neg ca, if_neg (by omega), if_pos (by omega), if_neg c2, if_neg c3])
          · by_cases c5 : b0 = 240
            · exact of 4 144 191 (by omega) (slow_F0 n b0 b1 b2 b3 hn h1 h2 h3 c5) (by unfold chrN; rw [if_neg ca, if_neg (by omega), if_neg (by omega), if_pos (by omega), if_pos c5])
            · by_cases c6 : b0 = 244
              · exact of 4 128 143 (by omega) (slow_F4 n b0 b1 b2 b3 hn h1 h2 h3 c6) (by unfold chrN; rw [if_neg ca, if_neg (by omega), if_neg (by omega), if_pos (by omega), if_neg c5, if_pos c6])
              · by_cases c7 : 241 ≤ b0 ∧ b0 < 244
                · exact of 4 128 191 (by omega) (slow_F1 n b0 b1 b2 b3 hn h1 h2 h3 c7) (by unfold chrN; rw [if_neg ca, if_neg (by omega), if_neg (by omega), if_pos (by omega), if_neg c5, if_neg c6])
                · have e : decodeN n b0 b1 b2 b3 = (65533, 1) := decodeN_bad n b0 b1 b2 b3 (by omega)
                  have f : chrN n b0 b1 b2 b3 = 0 := by unfold chrN; rw [if_neg ca, if_neg (by omega), if_neg (by omega), if_neg (by omega)]
                  rw [e, f]
                  exact ⟨fun h => absurd h (by omega), fun _ => rfl⟩
/-- Character, of a list -/
def chr (l : List UInt8) : Int := if l = [] then 0 else chrN l.length (l.getD 0 0).toNat (l.getD 1 0).toNat (l.getD 2 0).toNat (l.getD 3 0).toNat
theorem chr_good {l : List UInt8} (hne : l ≠ []) (h : 0 < chr l) : chr l = ((decodeL l).2 : Int) ∧ ¬ ((decodeL l).1 = 65533 ∧ (decodeL l).2 = 1) := by
  have hn : 1 ≤ l.length := by cases l with
    | nil => exact absurd rfl hne
    | cons a t => simp
  unfold chr at h ⊢
  rw [if_neg hne] at h ⊢
  obtain ⟨a, _⟩ := chr_dec l.length _ _ _ _ hn (getD_lt l 0) (getD_lt l 1) (getD_lt l 2) (getD_lt l 3)
  rw [decodeL_N]
  exact ⟨(a h).1.symm, (a h).2⟩
theorem chr_bad {l : List UInt8} (hne : l ≠ []) (h : ¬ 0 < chr l) : (decodeL l).1 = 65533 ∧ (decodeL l).2 = 1 := by
  have hn : 1 ≤ l.length := by cases l with
    | nil => exact absurd rfl hne
    | cons a t => simp
  unfold chr at h
  rw [if_neg hne] at h
  obtain ⟨_, b⟩ := chr_dec l.length _ _ _ _ hn (getD_lt l 0) (getD_lt l 1) (getD_lt l 2) (getD_lt l 3)
  rw [decodeL_N, b h]
  exact ⟨rfl, rfl⟩
/-- one step of Clean -/
theorem clean_step {l : List UInt8} (hne : l ≠ []) : validD l = if 0 < chr l then validD (l.drop (chr l).toNat) else false := by
  rw [validD_step l hne]
  by_cases h : 0 < chr l
  · obtain ⟨a, b⟩ := chr_good hne h
    rw [if_pos h, if_neg b, a]
    simp
  · rw [if_neg h, if_pos (chr_bad hne h)]
theorem chr_le {l : List UInt8} (hne : l ≠ []) (h : 0 < chr l) : chr l ≤ (l.length : Int) := by
  have := decodeL_le l hne
  rw [(chr_good hne h).1]
  omega
end Go.Proofs.YtnckhmfajjcgpaaGreatDoor.Mt
namespace Go.Proofs.YtnckhmfajjcgpaaGreatDoor.Mt
set_option linter.unusedVariables false
open Go.RowKit
theorem wrapN {x : Int} {k : Nat} (h : x = (k : Int)) (h2 : k ≤ 262144) : IntKind.i64.wrap x = (k : Int) := by
  rw [h]
  exact IntWalk.i64_in _ (by omega)
/-- the byte at a place -/
def bj (b1 b2 b3 j : Nat) : Nat := if j = 1 then b1 else if j = 2 then b2 else b3
def lj (lo j : Nat) : Nat := if j = 1 then lo else 128
def hj (hi j : Nat) : Nat := if j = 1 then hi else 191
theorem cl_end {n b1 b2 b3 sz lo hi : Nat} (hsz : sz = 2 ∨ sz = 3 ∨ sz = 4) (h : ∀ j, 1 ≤ j → j < sz → j < n ∧ lj lo j ≤ bj b1 b2 b3 j ∧ bj b1 b2 b3 j ≤ hj hi j) : chrLoop n b1 b2 b3 sz lo hi = sz := by
  unfold chrLoop
  rcases hsz with rfl | rfl | rfl
  · have a1 := h 1 (by omega) (by omega)
    simp [lj, hj, bj] at a1
    repeat' split
    all_goals first | rfl | (exfalso; omega)
  · have a1 := h 1 (by omega) (by omega)
    have a2 := h 2 (by omega) (by omega)
    simp [lj, hj, bj] at a1 a2
    repeat' split
    all_goals first | rfl | (exfalso; omega)
  · have a1 := h 1 (by omega) (by omega)
    have a2 := h 2 (by omega) (by omega)
    have a3 := h 3 (by omega) (by omega)
    simp [lj, hj, bj] at a1 a2 a3
    repeat' split
    all_goals first | rfl | (exfalso; omega)
theorem cl_short {n b1 b2 b3 sz lo hi q : Nat} (hsz : sz = 2 ∨ sz = 3 ∨ sz = 4) (hq : 1 ≤ q) (hqs : q < sz) (hn : n = q) (h : ∀ j, 1 ≤ j → j < q → lj lo j ≤ bj b1 b2 b3 j ∧ bj b1 b2 b3 j ≤ hj hi j) : chrLoop n b1 b2 b3 sz lo hi = -1 := by
  subst hn
  have hq3 : n = 1 ∨ n = 2 ∨ n = 3 := by omega
  unfold chrLoop
  rcases hq3 with rfl | rfl | rfl
  · rw [if_pos (by omega)]
  · have a1 := h 1 (by omega) (by omega)
    simp [lj, hj, bj] at a1
    repeat' split
    all_goals first | rfl | (exfalso; omega)
  · have a1 := h 1 (by omega) (by omega)
    have a2 := h 2 (by omega) (by omega)
    simp [lj, hj, bj] at a1 a2
    repeat' split
    all_goals first | rfl | (exfalso; omega)
theorem cl_bad {n b1 b2 b3 sz lo hi q : Nat} (hsz : sz = 2 ∨ sz = 3 ∨ sz = 4) (hq : 1 ≤ q) (hqs : q < sz) (hn : q < n) (h : ∀ j, 1 ≤ j → j < q → lj lo j ≤ bj b1 b2 b3 j ∧ bj b1 b2 b3 j ≤ hj hi j)
    (hb : bj b1 b2 b3 q < lj lo q ∨ hj hi q < bj b1 b2 b3 q) : chrLoop n b1 b2 b3 sz lo hi = 0 := by
  have hq3 : q = 1 ∨ q = 2 ∨ q = 3 := by omega
  unfold chrLoop
  rcases hq3 with rfl | rfl | rfl
  · simp [lj, hj, bj] at hb
    repeat' split
    all_goals first | rfl | (exfalso; omega)
  · have a1 := h 1 (by omega) (by omega)
    simp [lj, hj, bj] at a1 hb
    repeat' split
    all_goals first | rfl | (exfalso; omega)
  · have a1 := h 1 (by omega) (by omega)
    have a2 := h 2 (by omega) (by omega)
    simp [lj, hj, bj] at a1 a2 hb
    repeat' split
    all_goals first | rfl | (exfalso; omega)
/-- the class of a first byte -/
def cls (n b0 b1 b2 b3 sz lo hi : Nat) : Prop := (sz = 2 ∨ sz = 3 ∨ sz = 4) ∧ lo ≤ 255 ∧ hi ≤ 255 ∧ chrN n b0 b1 b2 b3 = chrLoop n b1 b2 b3 sz lo hi
theorem clsC2 {n b0 b1 b2 b3 : Nat} (h : 194 ≤ b0 ∧ b0 ≤ 223) : cls n b0 b1 b2 b3 2 128 191 := ⟨by omega, by omega, by omega, by unfold chrN; rw [if_neg (by omega), if_pos (by omega)]⟩
theorem clsE0 {n b0 b1 b2 b3 : Nat} (h : b0 = 224) : cls n b0 b1 b2 b3 3 160 191 := ⟨by omega, by omega, by omega, by unfold chrN; rw [if_neg (by omega), if_neg (by omega), if_pos (by omega), if_pos (by omega)]⟩
theorem clsED {n b0 b1 b2 b3 : Nat} (h : b0 = 237) : cls n b0 b1 b2 b3 3 128 159 := ⟨by omega, by omega, by omega, by unfold chrN; rw [if_neg (by omega), if_neg (by omega), if_pos (by omega), if_neg (by omega), if_pos (by omega)]⟩
theorem clsE1 {n b0 b1 b2 b3 : Nat} (h : 225 ≤ b0 ∧ b0 ≤ 239 ∧ b0 ≠ 237) : cls n b0 b1 b2 b3 3 128 191 := ⟨by omega, by omega, by omega, by unfold chrN; rw [if_neg (by omega), if_neg (by omega), if_pos (by omega), if_neg (by omega), if_neg (by omega)]⟩
theorem clsF0 {n b0 b1 b2 b3 : Nat} (h : b0 = 240) : cls n b0 b1 b2 b3 4 144 191 := ⟨by omega, by omega, by omega, by unfold chrN; rw [if_neg (by omega), if_neg (by omega), if_neg (by omega), if_pos (by omega), if_pos (by omega)]⟩
theorem clsF4 {n b0 b1 b2 b3 : Nat} (h : b0 = 244) : cls n b0 b1 b2 b3 4 128 143 := ⟨by omega, by omega, by omega, by unfold chrN; rw [if_neg (by omega), if_neg (by omega), if_neg (by omega), if_pos (by omega), if_neg (by omega), if_pos (by omega)]⟩
theorem clsF1 {n b0 b1 b2 b3 : Nat} (h : 241 ≤ b0 ∧ b0 ≤ 243) : cls n b0 b1 b2 b3 4 128 191 := ⟨by omega, by omega, by omega, by unfold chrN; rw [if_neg (by omega), if_neg (by omega), if_neg (by omega), if_pos (by omega), if_neg (by omega), if_neg (by omega)]⟩
set_option maxRecDepth 100000 in
set_option maxHeartbeats 4000000 in
theorem chr_any (w : World) (s : ByteArray) (hs : s.size ≤ 9223372036854775807) :
    Calls Tryz.prog 301 #[.string s] w fun e w' => e = .returned (.int .i64 (chr s.data.toList)) ∧ w' = w := by
  go_enter Tryz.func301, Tryz.ntmps301
  by_cases h0 : s.size = 0
  · have : s.data.toList = [] := by
      have : s.data.toList.length = 0 := by simpa using h0
      exact List.length_eq_zero_iff.1 this
    have hc : chr s.data.toList = 0 := by rw [this]; rfl
    have HC := Lib.hid hc
    have hse : s = ⟨#[]⟩ := by
      cases s with
      | mk d => congr 1; exact Array.toList_inj.1 (by simpa using this)
    clear hc this
    subst hse
    go_wp2
    go_ret
    exact ⟨rfl, rfl⟩
  · have h0' : (0:Int) < (s.size : Int) := by omega
    have h0'' : 0 < s.size := by omega
    obtain ⟨b0, hb0⟩ : ∃ b : Nat, (s[0]'h0'').toNat = b := ⟨_, rfl⟩
    have hb0' : b0 < 256 := by rw [← hb0]; exact UInt8.toNat_lt _
    have hsz : s.data.toList.length = s.size := by simp
    have hE : s.toList.isEmpty = false := by
      rw [ByteArray.toList_eq]
      cases hl : s.data.toList with
      | nil => rw [hl] at hsz; simp at hsz; omega
      | cons _ _ => rfl
    obtain ⟨C, hC⟩ : ∃ C, chr s.data.toList = C := ⟨_, rfl⟩
    have hCN : C = chrN s.size b0 (s.data.toList.getD 1 0).toNat (s.data.toList.getD 2 0).toNat (s.data.toList.getD 3 0).toNat := by
      rw [← hC, ← hb0]
      unfold chr
      rw [if_neg (by intro hh; have : s.data.toList.length = 0 := by rw [hh]; rfl
                     omega)]
      have : s.data.toList.getD 0 0 = s[0]'h0'' := by
        rw [List.getD_eq_getElem?_getD, List.getElem?_eq_getElem (by rw [hsz]; exact h0''), Option.getD_some]
        rfl
      rw [this, hsz]
    rw [hC]
    clear hC
    have HCN := Lib.hid hCN
    clear hCN
    by_cases ca : b0 < 128
    · have ca' : (b0 : Int) < 128 := by omega
      have hc1 : C = 1 := by
        rw [HCN.out]
        unfold chrN
        rw [if_pos ca]
      have HC1 := Lib.hid hc1
      clear hc1
      go_wp2
      go_ret
      exact ⟨by rw [HC1.out]; rfl, rfl⟩
    · have ca' : ¬ (b0 : Int) < 128 := by omega
      have ca2 : (128 : Int) ≤ (b0 : Int) := by omega
      have HC0 : ¬ (194 ≤ b0 ∧ b0 ≤ 244) → C = 0 := fun hh => by
        rw [HCN.out]
        unfold chrN
        rw [if_neg ca, if_neg (by omega), if_neg (by omega), if_neg (by omega)]
      go_upto_block 0 with fail
      go_cut [4, 5, 6] from 7 (fun n lo hi wx => ∃ sz l h : Nat, n = .int .i64 sz ∧ lo = .int .u8 l ∧ hi = .int .u8 h ∧ Hid (cls s.size b0 (s.data.toList.getD 1 0).toNat (s.data.toList.getD 2 0).toNat (s.data.toList.getD 3 0).toNat sz l h) ∧ wx = w)
      case first =>
        go_wp2
        all_goals (try simp only [beq_iff_eq, beq_eq_false_iff_ne, ne_eq] at *)
        all_goals first
          | (go_ret
             exact ⟨by rw [HC0 (by omega)]; rfl, rfl⟩)
          | (go_meet
             first
               | exact ⟨2, 128, 191, rfl, rfl, rfl, Lib.hid (clsC2 (by omega)), rfl⟩
               | exact ⟨3, 160, 191, rfl, rfl, rfl, Lib.hid (clsE0 (by omega)), rfl⟩
               | exact ⟨3, 128, 159, rfl, rfl, rfl, Lib.hid (clsED (by omega)), rfl⟩
               | exact ⟨3, 128, 191, rfl, rfl, rfl, Lib.hid (clsE1 (by omega)), rfl⟩
               | exact ⟨4, 144, 191, rfl, rfl, rfl, Lib.hid (clsF0 (by omega)), rfl⟩
               | exact ⟨4, 128, 143, rfl, rfl, rfl, Lib.hid (clsF4 (by omega)), rfl⟩
               | exact ⟨4, 128, 191, rfl, rfl, rfl, Lib.hid (clsF1 (by omega)), rfl⟩)
      case rest =>
        obtain ⟨sz, l, h, rfl, rfl, rfl, hcl, rfl⟩ := hcut
        obtain ⟨hs3, hl, hh, hch⟩ := hcl.out
        have HCH : Hid (C = chrLoop s.size (s.data.toList.getD 1 0).toNat (s.data.toList.getD 2 0).toNat (s.data.toList.getD 3 0).toNat sz l h) := Lib.hid (HCN.out.trans hch)
        clear hcl hch HCN HC0
        have bjq : ∀ q (hq : q < s.size), 1 ≤ q → q ≤ 3 → (s[q]'hq).toNat = bj (s.data.toList.getD 1 0).toNat (s.data.toList.getD 2 0).toNat (s.data.toList.getD 3 0).toNat q := by
          intro q hq h1 h3
          have : s.data.toList.getD q 0 = s[q]'hq := by
            rw [List.getD_eq_getElem?_getD, List.getElem?_eq_getElem (by rw [hsz]; exact hq), Option.getD_some]
            rfl
          rw [← this]
          have hq3 : q = 1 ∨ q = 2 ∨ q = 3 := by omega
          rcases hq3 with rfl | rfl | rfl <;> rfl
        have BJ := Lib.hid bjq
        clear bjq
        obtain ⟨b1, hb1⟩ : ∃ b, (s.data.toList.getD 1 0).toNat = b := ⟨_, rfl⟩
        obtain ⟨b2, hb2⟩ : ∃ b, (s.data.toList.getD 2 0).toNat = b := ⟨_, rfl⟩
        obtain ⟨b3, hb3⟩ : ∃ b, (s.data.toList.getD 3 0).toNat = b := ⟨_, rfl⟩
        rw [hb1, hb2, hb3] at HCH BJ
        clear hb1 hb2 hb3 hb0 hb0' ca ca' ca2
        go_wp2
        go_loopw [5, 6, 7] (fun lo hi ix wr => ∃ q : Nat, 1 ≤ q ∧ q ≤ sz ∧ ix = .int .i64 q ∧ lo = .int .u8 (lj l q) ∧ hi = .int .u8 (hj h q) ∧ wr = wc ∧ Hid (∀ j, 1 ≤ j → j < q → j < s.size ∧ lj l j ≤ bj b1 b2 b3 j ∧ bj b1 b2 b3 j ≤ hj h j)) (fun _ _ i _ => sz - (intOf i).toNat)
        case atStart => exact ⟨1, by omega, by omega, rfl, rfl, rfl, rfl, Lib.hid (fun j h1 h2 => by omega)⟩
        case round =>
          obtain ⟨q, hq1, hqs, rfl, rfl, rfl, rfl, HQ⟩ := hrel
          by_cases hlt : q < sz
          · by_cases hn : q < s.size
            · obtain ⟨L, hL⟩ : ∃ L, lj l q = L := ⟨_, rfl⟩
              obtain ⟨U, hU⟩ : ∃ U, hj h q = U := ⟨_, rfl⟩
              obtain ⟨b, hb⟩ : ∃ b : Nat, (s[q]'hn).toNat = b := ⟨_, rfl⟩
              have hbq : bj b1 b2 b3 q = b := by rw [← BJ.out q hn hq1 (by omega), hb]
              have HL := Lib.hid hL
              have HU := Lib.hid hU
              have HB := Lib.hid hbq
              rw [hL, hU]
              clear hL hU hbq
              have hni : (q : Int) < (s.size : Int) := by omega
              have hne : ((q : Int) == (s.size : Int)) = false := by simp; omega
              have hli : (q : Int) < (sz : Int) := by omega
              have hw : IntKind.i64.wrap ((q : Int) + 1) = ((q + 1 : Nat) : Int) := wrapN (by omega) (by omega)
              have hBAD : b < L ∨ U < b → C = 0 := fun hbad => by
                rw [HCH.out]
                exact cl_bad hs3 hq1 hlt hn (fun j h1 h2 => (HQ.out j h1 h2).2) (by rw [HB.out, HL.out, HU.out]; exact hbad)
              have HBAD := Lib.hid hBAD
              clear hBAD
              go_wp2
              all_goals first
                | (go_ret
                   exact ⟨by rw [HBAD.out (by omega)]; rfl, rfl⟩)
                | skip
              · go_roundw
                case rel =>
                  refine ⟨q + 1, by omega, by omega, by go_num, ?_, ?_, by first | rfl | trivial, Lib.hid fun j h1 h2 => ?_⟩
                  · rw [show lj l (q + 1) = 128 from by unfold lj; rw [if_neg (by omega)]]; rfl
                  · rw [show hj h (q + 1) = 191 from by unfold hj; rw [if_neg (by omega)]]; rfl
                  · by_cases hj' : j < q
                    · exact HQ.out j h1 hj'
                    · obtain rfl : j = q := by omega
                      rw [HB.out, HL.out, HU.out]
                      exact ⟨hn, by omega, by omega⟩
                case measure => simp [intOf]; omega
            · have hC : C = -1 := by
                rw [HCH.out]
                refine cl_short hs3 hq1 hlt ?_ (fun j h1 h2 => (HQ.out j h1 h2).2)
                by_cases h1 : q = 1
                · omega
                · have := (HQ.out (q - 1) (by omega) (by omega)).1
                  omega
              have hne : ((q : Int) == (s.size : Int)) = true := by
                have : s.size = q := by
                  by_cases h1 : q = 1
                  · omega
                  · have := (HQ.out (q - 1) (by omega) (by omega)).1
                    omega
                simp [this]
              have hli : (q : Int) < (sz : Int) := by omega
              have HC := Lib.hid hC
              clear hC
              go_wp2
              go_ret
              exact ⟨by rw [HC.out]; rfl, rfl⟩
          · have hC : C = sz := by
              rw [HCH.out]
              obtain rfl : q = sz := by omega
              exact cl_end hs3 HQ.out
            have hli : ¬ (q : Int) < (sz : Int) := by omega
            have HC := Lib.hid hC
            clear hC
            go_wp2
            go_ret
            exact ⟨by rw [HC.out]; rfl, rfl⟩
end Go.Proofs.YtnckhmfajjcgpaaGreatDoor.Mt
namespace Go.Proofs.YtnckhmfajjcgpaaGreatDoor.Mt
set_option linter.unusedVariables false
open Go.RowKit Go.Lib
theorem extract_drop (t : ByteArray) (k : Nat) : (t.extract k t.size).data.toList = t.data.toList.drop k := by
  rw [ByteArray.data_extract, Array.toList_extract, List.extract_eq_take_drop, List.take_of_length_le]
  simp
set_option maxRecDepth 100000 in
set_option maxHeartbeats 4000000 in
theorem clean_any (w : World) (s : ByteArray) (hs : s.size ≤ 9223372036854775807) :
    Calls Tryz.prog 234 #[.string s] w fun e w' => e = .returned (.bool (validD s.data.toList)) ∧ w' = w := by
  obtain ⟨B, hB⟩ : ∃ B, validD s.data.toList = B := ⟨_, rfl⟩
  have HB := Lib.hid hB
  rw [hB]
  clear hB
  go_enter Tryz.func234, Tryz.ntmps234
  go_wp2
  go_loopw [0] (fun v wr => ∃ t : ByteArray, v = .string t ∧ t.size ≤ 9223372036854775807 ∧ wr = w ∧ Hid (validD t.data.toList = B)) (fun v _ => match v with | .string t => t.size | _ => 0)
  case atStart => exact ⟨s, rfl, hs, rfl, HB⟩
  case round =>
    obtain ⟨t, rfl, ht, rfl, HT⟩ := hrel
    by_cases h0 : t.size = 0
    · have hl : t.data.toList = [] := by
        have : t.data.toList.length = 0 := by simpa using h0
        exact List.length_eq_zero_iff.1 this
      have hse : t = ⟨#[]⟩ := by
        cases t with
        | mk d => congr 1; exact Array.toList_inj.1 (by simpa using hl)
      have hb : B = true := by rw [← HT.out, hl]; rfl
      have HB2 := Lib.hid hb
      clear hb hl
      subst hse
      go_wp2
      go_ret
      exact ⟨by rw [HB2.out]; rfl, rfl⟩
    · have hsz : t.data.toList.length = t.size := by simp
      have hne : t.data.toList ≠ [] := by
        intro hh
        rw [hh] at hsz
        simp at hsz
        omega
      have hE : t.toList.isEmpty = false := by
        rw [ByteArray.toList_eq]
        cases hl : t.data.toList with
        | nil => exact absurd hl hne
        | cons _ _ => rfl
      have HST := Lib.hid (clean_step hne)
      have HLE := Lib.hid (fun h => chr_le hne h)
      obtain ⟨c, hc⟩ : ∃ c, chr t.data.toList = c := ⟨_, rfl⟩
      have HC := Lib.hid (chr_any wr t ht)
      rw [hc] at HST HLE HC
      clear hc hne
      by_cases hc : 0 < c
      · have hle : c ≤ (t.size : Int) := by have := HLE.out hc; omega
        obtain ⟨k, rfl⟩ : ∃ k : Nat, c = (k : Int) := ⟨c.toNat, by omega⟩
        have hk0 : 0 < k := by omega
        have hkle : k ≤ t.size := by omega
        have hcz : ¬ ((k : Int) ≤ 0) := by omega
        clear hsz hc
        go_wp2_with (first | (go_at_call 301; refine HC.out.mono ?_; rintro e w9 ⟨rfl, rfl⟩) | go_in)
        refine ⟨⟨t.extract k t.size, rfl, by rw [ByteArray.size_extract]; omega, trivial, Lib.hid ?_⟩, ?_⟩
        · rw [extract_drop, ← HT.out, HST.out, if_pos (by omega)]
          rfl
        · show (t.extract k t.size).size < t.size
          rw [ByteArray.size_extract]
          omega
      · have hcz : c ≤ 0 := by omega
        have hb : B = false := by rw [← HT.out, HST.out, if_neg hc]
        have HB2 := Lib.hid hb
        clear hb hsz
        go_wp2_with (first | (go_at_call 301; refine HC.out.mono ?_; rintro e w9 ⟨rfl, rfl⟩) | go_in)
        go_ret
        exact ⟨by rw [HB2.out]; rfl, rfl⟩
end Go.Proofs.YtnckhmfajjcgpaaGreatDoor.Mt
namespace Go.Proofs.YtnckhmfajjcgpaaGreatDoor.Mt
set_option linter.unusedVariables false
open Go.RowKit
/-- has a value nothing that its kind does not name? (the document's) -/
def plainB (k i : Int) (ts nn ni : Nat) : Bool :=
  if (k ≠ 3 ∧ i ≠ 0) ∨ (k ≠ 4 ∧ ts ≠ 0) then false
  else if k = 6 then nn == ni
  else nn == 0 && (k == 5 || ni == 0)
theorem beqn (n m : Nat) : ((n : Int) == (m : Int)) = (n == m) := by
  rw [Bool.eq_iff_iff, beq_iff_eq, beq_iff_eq]
  omega
theorem beq0 (n : Nat) : ((n : Int) == 0) = (n == 0) := beqn n 0
theorem str_empty {t : ByteArray} (h : t.size = 0) : t = ⟨#[]⟩ := by
  have hl : t.data.toList = [] := by
    have : t.data.toList.length = 0 := by simpa using h
    exact List.length_eq_zero_iff.1 this
  cases t with
  | mk d => congr 1; exact Array.toList_inj.1 (by simpa using hl)
theorem str_full {t : ByteArray} (h : ¬ t.size = 0) : t.toList.isEmpty = false := by
  have hsz : t.data.toList.length = t.size := by simp
  rw [ByteArray.toList_eq]
  cases hl : t.data.toList with
  | nil => rw [hl] at hsz; simp at hsz; omega
  | cons _ _ => rfl
set_option maxRecDepth 100000 in
set_option maxHeartbeats 4000000 in
theorem plain_any (w : World) (k i : Int) (t : ByteArray) (An : Option Addr) (nn cn : Nat) (Ai : Option Addr) (ni ci : Nat) (hn : nn ≤ 1048576) (hi : ni ≤ 1048576) :
    Calls Tryz.prog 233 #[.agg #[.int .i64 k, .int .i64 i, .string t, .slice An nn cn, .slice Ai ni ci]] w fun e w' => e = .returned (.bool (plainB k i t.size nn ni)) ∧ Below w.heap.size w w' := by
  obtain ⟨R, hR⟩ : ∃ R, plainB k i t.size nn ni = R := ⟨_, rfl⟩
  have HR := Lib.hid hR
  rw [hR]
  clear hR
  go_enter Tryz.func233, Tryz.ntmps233
  go_upto_region 1 with fail
  have hB := Blk.new w 29 #[.int .i64 k, .int .i64 i, .string t, .slice An nn cn, .slice Ai ni ci]
  have HBE := Lib.hid ((Below.refl w.heap.size w).alloc (Nat.le_refl _) (.cells #[.int .i64 k, .int .i64 i, .string t, .slice An nn cn, .slice Ai ni ci] 29))
  obtain ⟨w1, hw1⟩ : ∃ w1, w.alloc (.cells #[.int .i64 k, .int .i64 i, .string t, .slice An nn cn, .slice Ai ni ci] 29) = w1 := ⟨_, rfl⟩
  obtain ⟨g, hg⟩ : ∃ g, w.heap.size = g := ⟨_, rfl⟩
  have HG := Lib.hid hg
  rw [hw1, hg] at hB HBE ⊢
  clear hw1 hg
  have c0 : w1.cell? ⟨g, 0, none⟩ = some (.int .i64 k) := hB.cell 0
  have c1 : w1.cell? ⟨g, 1, none⟩ = some (.int .i64 i) := hB.cell 1
  have c2 : w1.cell? ⟨g, 2, none⟩ = some (.string t) := hB.cell 2
  have c3 : w1.cell? ⟨g, 3, none⟩ = some (.slice An nn cn) := hB.cell 3
  have c4 : w1.cell? ⟨g, 4, none⟩ = some (.slice Ai ni ci) := hB.cell 4
  clear hB
  by_cases ht : t.size = 0
  · have hte := str_empty ht
    have HT := Lib.hid ht
    clear ht
    subst hte
    go_wp2
    all_goals
      go_ret
      refine ⟨?_, HG.out ▸ HBE.out⟩
      have h2 := HR.out
      have h3 := HT.out
      clear HR HT HBE HG c0 c1 c2 c3 c4
      refine congrArg Ending.returned (congrArg Value.bool ?_)
      rw [← h2]
      unfold plainB
      simp_all [beqn, beq0]
  · have hte := str_full ht
    have HT := Lib.hid ht
    clear ht
    go_wp2
    all_goals
      go_ret
      refine ⟨?_, HG.out ▸ HBE.out⟩
      have h2 := HR.out
      have h3 := HT.out
      clear HR HT HBE HG c0 c1 c2 c3 c4 hte
      refine congrArg Ending.returned (congrArg Value.bool ?_)
      rw [← h2]
      unfold plainB
      simp_all [beqn, beq0]
end Go.Proofs.YtnckhmfajjcgpaaGreatDoor.Mt
namespace Go.Proofs.YtnckhmfajjcgpaaGreatDoor.Mt
set_option linter.unusedVariables false
open Go.RowKit Go.Lib
/-- what a call reads of the library's tables; it stays -/
structure Tbs where
  P : World → Prop
  keep : ∀ w w', P w → Below w.heap.size w w' → P w'
/-- utf8.ValidString -/
def ValidOk (T : Tbs) : Prop := ∀ (w : World) (s : ByteArray), s.size ≤ 9223372036854775807 → T.P w → Calls Tryz.prog 230 #[.string s] w fun e w' => e = .returned (.bool (validD s.data.toList)) ∧ Below w.heap.size w w'
/-- has a value nothing that its kind does not name? (the program's; v: its text is characters) -/
def fitsB (k i : Int) (ts nn ni : Nat) (v : Bool) : Bool :=
  if k = 0 ∨ k = 1 ∨ k = 2 then i == 0 && ts == 0 && nn == 0 && ni == 0
  else if k = 3 then ts == 0 && nn == 0 && ni == 0
  else if k = 4 then i == 0 && nn == 0 && ni == 0 && v
  else if k = 5 then i == 0 && ts == 0 && nn == 0
  else if k = 6 then i == 0 && ts == 0 && nn == ni
  else false
theorem fits_plain (k i : Int) (ts nn ni : Nat) (v : Bool) (hv : ts = 0 → v = true) : fitsB k i ts nn ni v = (decide (0 ≤ k ∧ k ≤ 6) && plainB k i ts nn ni && v) := by
  unfold fitsB plainB
  by_cases h0 : k = 0 ∨ k = 1 ∨ k = 2
  · have a : 0 ≤ k ∧ k ≤ 6 := by omega
    have b : k ≠ 3 := by omega
    have c : k ≠ 4 := by omega
    have d : k ≠ 5 := by omega
    have e : k ≠ 6 := by omega
    have f : (k == 5) = false := by simp [d]
    by_cases ht : ts = 0
    · by_cases hi : i = 0 <;> simp [h0, a, b, c, d, e, f, ht, hi, hv ht]
    · simp [h0, a, b, c, d, e, ht]
  · rw [if_neg h0]
    by_cases h3 : k = 3
    · subst h3
      by_cases ht : ts = 0 <;> simp [ht, hv]
    · by_cases h4 : k = 4
      · subst h4
        by_cases hi : i = 0 <;> simp [hi]
      · by_cases h5 : k = 5
        · subst h5
          by_cases ht : ts = 0
          · by_cases hi : i = 0 <;> simp [ht, hi, hv]
          · simp [ht]
        · by_cases h6 : k = 6
          · subst h6
            by_cases ht : ts = 0
            · by_cases hi : i = 0 <;> simp [ht, hi, hv]
            · simp [ht]
          · have : ¬ (0 ≤ k ∧ k ≤ 6) := by omega
            simp [h3, h4, h5, h6, this]
set_option maxRecDepth 100000 in
set_option maxHeartbeats 4000000 in
theorem fits_any {T : Tbs} (HV : ValidOk T) (w : World) (hT : T.P w) (k i : Int) (t : ByteArray) (hs : t.size ≤ 9223372036854775807) (An : Option Addr) (nn cn : Nat) (Ai : Option Addr) (ni ci : Nat) (hn : nn ≤ 1048576) (hi : ni ≤ 1048576) :
    Calls Tryz.prog 229 #[.agg #[.int .i64 k, .int .i64 i, .string t, .slice An nn cn, .slice Ai ni ci]] w fun e w' => e = .returned (.bool (fitsB k i t.size nn ni (validD t.data.toList))) ∧ Below w.heap.size w w' := by
  obtain ⟨R, hR⟩ : ∃ R, fitsB k i t.size nn ni (validD t.data.toList) = R := ⟨_, rfl⟩
  have HR := Lib.hid hR
  rw [hR]
  clear hR
  go_enter Tryz.func229, Tryz.ntmps229
  go_upto_region 1 with fail
  have hB := Blk.new w 29 #[.int .i64 k, .int .i64 i, .string t, .slice An nn cn, .slice Ai ni ci]
  have HBE := Lib.hid ((Below.refl w.heap.size w).alloc (Nat.le_refl _) (.cells #[.int .i64 k, .int .i64 i, .string t, .slice An nn cn, .slice Ai ni ci] 29))
  have HT1 := Lib.hid (T.keep _ _ hT HBE.out)
  obtain ⟨w1, hw1⟩ : ∃ w1, w.alloc (.cells #[.int .i64 k, .int .i64 i, .string t, .slice An nn cn, .slice Ai ni ci] 29) = w1 := ⟨_, rfl⟩
  obtain ⟨g, hg⟩ : ∃ g, w.heap.size = g := ⟨_, rfl⟩
  have HG := Lib.hid hg
  rw [hw1] at HT1
  rw [hw1, hg] at hB HBE ⊢
  clear hw1 hg hT
  have c0 : w1.cell? ⟨g, 0, none⟩ = some (.int .i64 k) := hB.cell 0
  have c1 : w1.cell? ⟨g, 1, none⟩ = some (.int .i64 i) := hB.cell 1
  have c2 : w1.cell? ⟨g, 2, none⟩ = some (.string t) := hB.cell 2
  have c3 : w1.cell? ⟨g, 3, none⟩ = some (.slice An nn cn) := hB.cell 3
  have c4 : w1.cell? ⟨g, 4, none⟩ = some (.slice Ai ni ci) := hB.cell 4
  go_quiet (fail)
  go_upto_region 2 with fail
  have HT2 := Lib.hid (T.keep _ _ HT1.out (bel_drewN2 (Below.refl w1.heap.size w1) nq))
  have HB2 := Lib.hid (bel_drewN2 HBE.out nq)
  replace c0 : (w1.drewN nq).cell? ⟨g, 0, none⟩ = some (.int .i64 k) := c0
  replace c1 : (w1.drewN nq).cell? ⟨g, 1, none⟩ = some (.int .i64 i) := c1
  replace c2 : (w1.drewN nq).cell? ⟨g, 2, none⟩ = some (.string t) := c2
  replace c3 : (w1.drewN nq).cell? ⟨g, 3, none⟩ = some (.slice An nn cn) := c3
  replace c4 : (w1.drewN nq).cell? ⟨g, 4, none⟩ = some (.slice Ai ni ci) := c4
  clear hB HBE HT1
  generalize w1.drewN nq = wq at HT2 HB2 c0 c1 c2 c3 c4 ⊢
  have HC := Lib.hid (HV wq t hs HT2.out)
  obtain ⟨v, hv⟩ : ∃ v, validD t.data.toList = v := ⟨_, rfl⟩
  rw [hv] at HC HR
  clear hv HT2
  by_cases ht : t.size = 0
  · have hte := str_empty ht
    have HT := Lib.hid ht
    clear ht
    subst hte
    go_wp2_with (first | (go_at_call 230; refine HC.out.mono ?_; rintro e w9 ⟨rfl, hb9⟩) | go_in)
    all_goals
      go_ret
      refine ⟨?_, by first | exact bel_next (HG.out ▸ HB2.out) hb9 | exact HG.out ▸ HB2.out⟩
      have h2 := HR.out
      have h3 := HT.out
      clear HR HT HB2 HG HC c0 c1 c2 c3 c4
      refine congrArg Ending.returned (congrArg Value.bool ?_)
      rw [← h2]
      unfold fitsB
      simp_all [beqn, beq0]
  · have hte := str_full ht
    have HT := Lib.hid ht
    clear ht
    go_wp2_with (first | (go_at_call 230; refine HC.out.mono ?_; rintro e w9 ⟨rfl, hb9⟩) | go_in)
    all_goals
      go_ret
      refine ⟨?_, by first | exact bel_next (HG.out ▸ HB2.out) hb9 | exact HG.out ▸ HB2.out⟩
      have h2 := HR.out
      have h3 := HT.out
      clear HR HT HB2 HG HC c0 c1 c2 c3 c4
      refine congrArg Ending.returned (congrArg Value.bool ?_)
      rw [← h2]
      unfold fitsB
      simp_all [beqn, beq0]
end Go.Proofs.YtnckhmfajjcgpaaGreatDoor.Mt
namespace Go.Proofs.YtnckhmfajjcgpaaGreatDoor.Mt
set_option linter.unusedVariables false
open Go.RowKit
/-- is a text among texts? -/
def hasB (l : List ByteArray) (s : ByteArray) : Bool := l.any fun x => x.toList == s.toList
set_option maxRecDepth 100000 in
set_option maxHeartbeats 4000000 in
theorem has_any (w : World) (A : Option Addr) (n c : Nat) (l : List ByteArray) (s : ByteArray) (hn : l.length = n) (h : Lst 1 StrR w w.heap.size A l) :
    Calls Tryz.prog 235 #[.slice A n c, .string s] w fun e w' => e = .returned (.bool (hasB l s)) ∧ w' = w := by
  have b1 := h.1
  have H := Lib.hid h
  have HN := Lib.hid hn
  rw [hn] at b1
  obtain ⟨R, hR⟩ : ∃ R, hasB l s = R := ⟨_, rfl⟩
  have HR := Lib.hid hR
  rw [hR]
  clear hn h hR
  go_enter Tryz.func235, Tryz.ntmps235
  go_wp2
  go_loopw [5] (fun ix wr => ∃ q : Nat, q ≤ n ∧ ix = .int .i64 q ∧ wr = w ∧ Hid (∀ j (h : j < l.length), j < q → (l[j].toList == s.toList) = false)) (fun i _ => n - (intOf i).toNat)
  case atStart => exact ⟨0, Nat.zero_le _, rfl, rfl, Lib.hid (fun j h h2 => by omega)⟩
  case round =>
    obtain ⟨q, hq, rfl, rfl, HQ⟩ := hrel
    by_cases hlt : q < n
    · have hkl : q < l.length := by have := HN.out; omega
      obtain ⟨b, off, rfl, hb, hc⟩ := H.out.str hkl
      have hcq := hc q hkl
      obtain ⟨x, hx⟩ : ∃ x, l[q] = x := ⟨_, rfl⟩
      rw [hx] at hcq
      have HX := Lib.hid hx
      clear hx hc
      have hli : (q : Int) < (n : Int) := by omega
      cases he : x.toList == s.toList with
      | true =>
        have hR : R = true := by
          rw [← HR.out]
          unfold hasB
          rw [List.any_eq_true]
          exact ⟨l[q], List.getElem_mem hkl, by rw [HX.out]; exact he⟩
        have HR2 := Lib.hid hR
        clear hR
        go_wp2
        go_ret
        exact ⟨by rw [HR2.out]; rfl, rfl⟩
      | false =>
        have HE := Lib.hid he
        go_wp2
        go_roundw
        case rel =>
          refine ⟨q + 1, by omega, by go_num, trivial, Lib.hid fun j h h2 => ?_⟩
          by_cases hj : j < q
          · exact HQ.out j h hj
          · obtain rfl : j = q := by omega
            rw [HX.out]
            exact HE.out
        case measure => simp [intOf]; omega
    · have hR : R = false := by
        rw [← HR.out]
        unfold hasB
        rw [List.any_eq_false]
        intro x hx
        obtain ⟨j, hj, e⟩ := List.getElem_of_mem hx
        have := HQ.out j hj (by have := HN.out; omega)
        rw [e] at this
        rw [this]
        simp
      have HR2 := Lib.hid hR
      have hli : ¬ (q : Int) < (n : Int) := by omega
      clear hR
      go_wp2
      go_ret
      exact ⟨by rw [HR2.out]; rfl, rfl⟩
end Go.Proofs.YtnckhmfajjcgpaaGreatDoor.Mt
namespace Go.Proofs.YtnckhmfajjcgpaaGreatDoor.Mt
set_option linter.unusedVariables false
open Go.RowKit Go.Lib
/-- how much a list of texts holds -/
def nsz (ns : List ByteArray) : Nat := (ns.map fun s => s.size + 1).sum
theorem nsz_at : ∀ {ns : List ByteArray} {k : Nat} (h : k < ns.length), ns[k].size ≤ nsz ns
  | s :: l, 0, _ => by simp [nsz]; omega
  | s :: l, k + 1, h => by
    have := nsz_at (ns := l) (k := k) (by simpa using h)
    simp only [List.getElem_cons_succ]
    have e : nsz (s :: l) = s.size + 1 + nsz l := by simp [nsz]
    omega
mutual
/-- how much a value holds -/
def V.sz : V → Nat
  | .mk _ _ t ns xs => 1 + t.size + nsz ns + V.szs xs
def V.szs : List V → Nat
  | [] => 0
  | x :: l => V.sz x + V.szs l
end
theorem V.szs_at : ∀ {xs : List V} {k : Nat} (h : k < xs.length), V.sz xs[k] ≤ V.szs xs
  | x :: l, 0, _ => by simp [V.szs]
  | x :: l, k + 1, h => by
    have := V.szs_at (xs := l) (k := k) (by simpa using h)
    simp only [List.getElem_cons_succ, V.szs]
    omega
/-- how deep a value of a kind may stand -/
def most (k : Int) : Int := if k = 5 ∨ k = 6 then 63 else 64
mutual
/-- the first fault of a value at a depth; 0: none -/
def chk : V → Int → Int
  | .mk k i t ns xs, d => if most k < d then 17 else if fitsB k i t.size ns.length xs.length (validD t.data.toList) = false then 18 else chks k ns 0 xs d
/-- of the items from the q-th on -/
def chks (k : Int) (ns : List ByteArray) : Nat → List V → Int → Int
  | _, [], _ => 0
  | q, x :: xs, d =>
    if k = 6 ∧ validD (ns.getD q ByteArray.empty).data.toList = false then 18
    else if k = 6 ∧ hasB (ns.take q) (ns.getD q ByteArray.empty) = true then 16
    else if chk x (d + 1) ≠ 0 then chk x (d + 1) else chks k ns (q + 1) xs d
end
theorem chk_mk (k i : Int) (t : ByteArray) (ns : List ByteArray) (xs : List V) (d : Int) : chk (.mk k i t ns xs) d = if most k < d then 17 else if fitsB k i t.size ns.length xs.length (validD t.data.toList) = false then 18 else chks k ns 0 xs d := by rw [chk]
theorem chks_at {k : Int} {ns : List ByteArray} {xs : List V} {q : Nat} {d : Int} (h : q < xs.length) : chks k ns q (xs.drop q) d =
    if k = 6 ∧ validD (ns.getD q ByteArray.empty).data.toList = false then 18
    else if k = 6 ∧ hasB (ns.take q) (ns.getD q ByteArray.empty) = true then 16
    else if chk xs[q] (d + 1) ≠ 0 then chk xs[q] (d + 1) else chks k ns (q + 1) (xs.drop (q + 1)) d := by
  rw [List.drop_eq_getElem_cons h, chks]
theorem chks_end {k : Int} {ns : List ByteArray} {xs : List V} {d : Int} : chks k ns xs.length (xs.drop xs.length) d = 0 := by
  rw [List.drop_length, chks]
end Go.Proofs.YtnckhmfajjcgpaaGreatDoor.Mt
