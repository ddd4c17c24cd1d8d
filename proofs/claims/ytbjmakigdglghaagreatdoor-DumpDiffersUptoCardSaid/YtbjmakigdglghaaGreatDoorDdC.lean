/- The keys of two maps, gathered in whatever order and sorted: plain. -/
import Derived.Test.YtbjmakigdglghaaGreatDoorDdB
import Derived.Sort.OwnSorted
import Derived.Sort.KeysCollected
import Derived.Shelf.Slices.In.SortNone
set_option linter.unusedVariables false
set_option linter.unusedSimpArgs false
set_option linter.unusedSectionVars false
namespace Go.Proofs.YtbjmakigdglghaaGreatDoor.Dd
set_option linter.unusedVariables false
def bk (k : ByteArray) : List UInt8 := k.data.toList
theorem enc_bk (k : ByteArray) : encStr (bk k) = .string k := by cases k; simp [encStr, bk]
theorem bk_inj {a b : ByteArray} (h : bk a = bk b) : a = b := by
  cases a; cases b
  simp only [bk] at h
  congr 1
  exact Array.toList_inj.1 h
def got (p : En → Bool) (es : List En) (i : Nat) : Option (List UInt8) := (es[i]?).bind fun e => if p e then some (bk e.1) else none
def kl (p : En → Bool) (es : List En) : List (List UInt8) := es.filterMap fun e => if p e then some (bk e.1) else none
structure Seen (n : Nat) (seen : Array Nat) : Prop where
  nodup : seen.toList.Nodup
  lt : ∀ i, i ∈ seen → i < n
theorem Seen.nil (n : Nat) : Seen n #[] := ⟨by simp, by simp⟩
theorem Seen.push {n : Nat} {seen : Array Nat} (h : Seen n seen) {i : Nat} (hi : i < n) (hn : i ∉ seen) : Seen n (seen.push i) := by
  refine ⟨?_, fun j hj => ?_⟩
  · simp only [Array.toList_push]
    rw [List.nodup_append]
    exact ⟨h.nodup, by simp, fun a ha b hb => by simp at hb; subst hb; rintro rfl; exact hn (by simpa using ha)⟩
  · simp at hj
    rcases hj with hj | rfl
    · exact h.lt j hj
    · exact hi
theorem nodup_le : ∀ (n : Nat) (l : List Nat), l.Nodup → (∀ x ∈ l, x < n) → l.length ≤ n
  | 0, l, _, h => by
    cases l with
    | nil => simp
    | cons a l => have := h a (by simp); omega
  | n + 1, l, hn, h => by
    by_cases hm : n ∈ l
    · have h1 := nodup_le n (l.erase n) (hn.erase n) fun x hx => by
        have h2 := h x (List.mem_of_mem_erase hx)
        have h3 : x ≠ n := fun e => by
          subst e
          exact (List.Nodup.not_mem_erase hn) hx
        omega
      rw [List.length_erase_of_mem hm] at h1
      omega
    · have h1 := nodup_le n l hn fun x hx => by
        have h2 := h x hx
        have h3 : x ≠ n := fun e => hm (e ▸ hx)
        omega
      omega
theorem Seen.size {n : Nat} {seen : Array Nat} (h : Seen n seen) : seen.size ≤ n := by
  have := nodup_le n seen.toList h.nodup fun x hx => h.lt x (by simpa using hx)
  simpa using this
theorem Seen.perm {n : Nat} {seen : Array Nat} (h : Seen n seen) (ha : ∀ i, i < n → i ∈ seen) : seen.toList.Perm (List.range n) := by
  rw [List.perm_ext_iff_of_nodup h.nodup List.nodup_range]
  intro a
  simp only [List.mem_range]
  exact ⟨fun hm => h.lt a (by simpa using hm), fun hl => by simpa using ha a hl⟩
theorem got_range (p : En → Bool) : ∀ (es : List En), (List.range es.length).filterMap (got p es) = kl p es := by
  intro es
  have : ∀ (l : List En) (off : Nat), (∀ j, es[off + j]? = l[j]?) → (List.range' off l.length).filterMap (got p es) = kl p l := by
    intro l
    induction l with
    | nil => intro off _; simp [kl]
    | cons e l ih =>
      intro off h
      simp only [List.length_cons, List.range'_succ, List.filterMap_cons, kl]
      have h0 := h 0
      simp at h0
      have hg : got p es off = if p e then some (bk e.1) else none := by simp [got, h0]
      rw [hg]
      have ht := ih (off + 1) fun j => by
        have := h (j + 1)
        simpa [Nat.add_assoc, Nat.add_comm 1] using this
      cases p e with
      | true => simp only [if_true]; rw [ht]; rfl
      | false => exact ht
  rw [List.range_eq_range']
  exact this es 0 fun j => by simp
theorem all_got {p : En → Bool} {es : List En} {seen : Array Nat} (h : Seen es.length seen) (ha : ∀ i, i < es.length → i ∈ seen) : (seen.toList.filterMap (got p es)).Perm (kl p es) := by
  rw [← got_range]
  exact (h.perm ha).filterMap _
theorem got_push {p : En → Bool} {es : List En} {seen : Array Nat} {i : Nat} (hi : i < es.length) : (seen.push i).toList.filterMap (got p es) = seen.toList.filterMap (got p es) ++ (if p es[i] then [bk es[i].1] else []) := by
  rw [Array.toList_push, List.filterMap_append]
  congr 1
  have hg : got p es i = if p es[i] then some (bk es[i].1) else none := by simp [got, hi]
  simp only [List.filterMap_cons, List.filterMap_nil, hg]
  cases p es[i] <;> simp
/-- how many entries are still to come -/
def toCome (w : World) (r n : Nat) : Nat := match w.heap[r]? with
  | some (.mapIter _ _ seen _) => n - seen.size
  | _ => 0
theorem toCome_eq {w : World} {r b n : Nat} {seen : Array Nat} (h : ItAt w r b n seen) : toCome w r n = n - seen.size := by
  unfold ItAt at h
  unfold toCome
  rw [h]
def all (_ : En) : Bool := true
def fresh (ea : List En) (e : En) : Bool := (look ea e.1).isNone
/-- the keys of both, rising -/
def keysOf (ea eb : List En) : List (List UInt8) := (kl all ea ++ kl (fresh ea) eb).mergeSort leB
end Go.Proofs.YtbjmakigdglghaaGreatDoor.Dd
namespace Go.Proofs.YtbjmakigdglghaaGreatDoor.Dd
set_option linter.unusedVariables false
open Go.RowKit Go.Sort
theorem sort_some (g cap : Nat) (ss : List (List UInt8)) (w : World) (hH : Holds encStr w g 0 ss.toArray) (hg : g < w.heap.size) (hs : ss.length < 4611686018427387904) :
    Calls Tryz.prog 67 #[.slice (some ⟨g, 0, none⟩) ss.length cap] w fun e w' => e = .returned (.tuple #[]) ∧ ∃ n os, w' = grow (putRow encStr (Sort.ahead w n) g 0 (ss.mergeSort fun x y => decide (x ≤ y)).toArray) os :=
  Any.slices_Sort_string Tryz.lays190 g 0 cap ss w hH hg hs
theorem sort_none (p : Option Addr) (cap : Nat) (w : World) : Calls Tryz.prog 67 #[.slice p 0 cap] w fun e w' => e = .returned (.tuple #[]) ∧ w' = w := Any.slices_Sort_string_none Tryz.lays190 p cap w
theorem info9 : (Tryz.prog.info? 9).map (fun i => (i.zero, i.size, i.bytes)) = some (some (.string ⟨#[]⟩), 1, 16) := by kernel_rfl
theorem it_ne_own {w : World} {r b n : Nat} {seen : Array Nat} {base : Nat} {e : TypeId} {size m : Nat} {v : Value} {xs : List Value} (h : w.ownsRow base e size v m xs) (hr : ItAt w r b n seen) : some r ≠ v.ownBlock := by
  rcases h.2 with ⟨rfl, _⟩ | ⟨g, cap, cur, rfl, _, hb, _⟩
  · simp [Value.ownBlock]
  · intro e1
    have : r = g := by simpa [Value.ownBlock] using e1
    exact ne_it_row hr hb this
theorem map_ne_own {w : World} {b : Nat} {es : List En} {base : Nat} {e : TypeId} {size m : Nat} {v : Value} {xs : List Value} (h : w.ownsRow base e size v m xs) (hr : MAt w b es) : some b ≠ v.ownBlock := by
  rcases h.2 with ⟨rfl, _⟩ | ⟨g, cap, cur, rfl, _, hb, _⟩
  · simp [Value.ownBlock]
  · intro e1
    have : b = g := by simpa [Value.ownBlock] using e1
    exact ne_map_row hr hb this
theorem cell_one_new2 (w : World) (x : Value) (t : TypeId) (o : Obj) : ∀ j u, [x][j]? = some u → ((w.alloc o).alloc (.cells #[x] t)).cell? ((⟨w.heap.size + 1, 0, none⟩ : Addr).add j) = some u := by
  have := cell_one_new (w.alloc o) x t
  simpa only [World.size_alloc] using this
theorem kl_len (p : En → Bool) (es : List En) : (kl p es).length ≤ es.length := List.length_filterMap_le _ _
theorem got_len (p : En → Bool) (es : List En) (seen : Array Nat) : (seen.toList.filterMap (got p es)).length ≤ seen.size := by
  have := List.length_filterMap_le (got p es) seen.toList
  simpa using this
set_option maxRecDepth 100000 in
set_option maxHeartbeats 4000000 in
theorem keys_C (w w0 : World) (B : Nat) (la : List C) (ba bb : Nat) (ea eb : List En) (hA : MAt w ba ea) (hB : MAt w bb eb) (hF : Firsts (CR w0 B) (fun x : C => x.n) ea la) (na : ea.length ≤ 1048576) (nb : eb.length ≤ 1048576) :
    Calls Tryz.prog 29 #[.map (some ba), .map (some bb)] w fun e w' => ∃ v, e = .returned v ∧ Below w.heap.size w w' ∧ w'.ownsRow w.heap.size 9 1 v (keysOf ea eb).length ((keysOf ea eb).map encStr) := by
  obtain ⟨i0, hi, hz0, hz1, hz2⟩ := info_parts info9
  have hba := hA.lt
  have hbb := hB.lt
  have HF := Lib.hid hF
  obtain ⟨qa, hqa⟩ : ∃ q, ea.length = q := ⟨_, rfl⟩
  obtain ⟨qb, hqb⟩ : ∃ q, eb.length = q := ⟨_, rfl⟩
  have HQA := Lib.hid hqa
  have HQB := Lib.hid hqb
  rw [hqa] at na
  rw [hqb] at nb
  clear hF hqa hqb
  go_enter Tryz.func29, Tryz.ntmps29
  go_wp2_with (first
    | (at_range; refine wpList_range_at _ rfl _ 79 rfl 9 70 Tryz.underlying79 ba ea rfl hA ?_; rw [HQA.out])
    | go_in)
  go_frame
  go_loopw [5] (fun v wr => ∃ (seen : Array Nat), Seen qa seen ∧ ItAt wr w.heap.size ba qa seen ∧ w.heap.size < wr.heap.size ∧ Below w.heap.size w wr ∧
      wr.ownsRow w.heap.size 9 1 v (seen.toList.filterMap (got all ea)).length ((seen.toList.filterMap (got all ea)).map encStr)) (fun _ wr => toCome wr w.heap.size qa)
  case atStart => exact ⟨#[], Seen.nil _, ItAt.made w ba qa, by simp, (Below.refl _ _).alloc (Nat.le_refl _) _, by first | exact World.ownsRow_nil _ _ _ _ | exact ⟨by simp, .inl ⟨rfl, by simp⟩⟩⟩
  case round =>
    obtain ⟨seen, hS, hI, hsz, hbel, hrow⟩ := hrel
    have hAr := hA.below hbel hba
    have hsl := hS.size
    have hgl := got_len all ea seen
    have HI := Lib.hid hI
    have HIQ : Hid (ItAt wr w.heap.size ba ea.length seen) := by rw [HQA.out]; exact hI
    obtain ⟨ss, hss⟩ : ∃ ss, seen.toList.filterMap (got all ea) = ss := ⟨_, rfl⟩
    have HSS := Lib.hid hss
    rw [hss] at hgl hrow
    obtain ⟨m, hm⟩ : ∃ m, ss.length = m := ⟨_, rfl⟩
    have HM := Lib.hid hm
    rw [hm] at hgl hrow
    clear hI hss hm
    go_wp2_with (first
      | (at_next; refine wpList_next_at _ rfl _ rfl w.heap.size ba ea seen rfl hAr HIQ.out ?_ ?_)
      | go_in)
    · intro hall
      have hp1 := all_got (p := all) (es := ea) (by rw [HQA.out]; exact hS) hall
      rw [HSS.out] at hp1
      have HP1 := Lib.hid hp1
      have hgl1 : m ≤ qa := by omega
      have hBr := hB.below hbel hbb
      clear hall hp1 hAr hgl hsl HSS HIQ HI hS
      go_wp2_with (first
        | (at_range; refine wpList_range_at _ rfl _ 79 rfl 9 70 Tryz.underlying79 bb eb rfl hBr ?_; rw [HQB.out])
        | go_in)
      go_frame
      obtain ⟨r2, hr2⟩ : ∃ r, wr.heap.size = r := ⟨_, rfl⟩
      have hI0 := ItAt.made wr bb qb
      have hw0 : r2 < (wr.alloc (.mapIter (some bb) qb #[] qb)).heap.size := by simp; omega
      have hb0 := hbel.alloc (by omega) (.mapIter (some bb) qb #[] qb)
      have hrow0 := hrow.alloc (.mapIter (some bb) qb #[] qb)
      rw [hr2] at hI0 ⊢
      have hr2s : w.heap.size < r2 := by omega
      generalize wr.alloc (.mapIter (some bb) qb #[] qb) = wq at hI0 hw0 hb0 hrow0 ⊢
      clear hr2 hrow hbel hsz hBr
      go_loopw [5] (fun v wr => ∃ (seen : Array Nat), Seen qb seen ∧ ItAt wr r2 bb qb seen ∧ r2 < wr.heap.size ∧ Below w.heap.size w wr ∧
          wr.ownsRow w.heap.size 9 1 v (ss ++ seen.toList.filterMap (got (fresh ea) eb)).length ((ss ++ seen.toList.filterMap (got (fresh ea) eb)).map encStr)) (fun _ wr => toCome wr r2 qb)
      case atStart => exact ⟨#[], Seen.nil _, hI0, hw0, hb0, by simpa [HM.out] using hrow0⟩
      case round =>
        obtain ⟨seen, hS, hI, hsz, hbel, hrow⟩ := hrel
        clear hI0 hw0 hb0 hrow0
        have hAr := hA.below hbel hba
        have hBr := hB.below hbel hbb
        have hsl := hS.size
        have hgl := got_len (fresh ea) eb seen
        have HI := Lib.hid hI
        have HIQ : Hid (ItAt wr r2 bb eb.length seen) := by rw [HQB.out]; exact hI
        obtain ⟨s2, hs2⟩ : ∃ s2, seen.toList.filterMap (got (fresh ea) eb) = s2 := ⟨_, rfl⟩
        have HSS := Lib.hid hs2
        rw [hs2] at hgl hrow
        obtain ⟨m2, hm2⟩ : ∃ m2, s2.length = m2 := ⟨_, rfl⟩
        have HM2 := Lib.hid hm2
        rw [hm2] at hgl
        rw [List.length_append, HM.out, hm2] at hrow
        have hrow1 := hrow
        have HAR := Lib.hid hAr
        clear hI hs2 hm2 hrow hAr
        go_wp2_with (first
          | (at_next; refine wpList_next_at _ rfl _ rfl r2 bb eb seen rfl hBr HIQ.out ?_ ?_)
          | go_in)
        · intro hall
          have hp2 := all_got (p := fresh ea) (es := eb) (by rw [HQB.out]; exact hS) hall
          rw [HSS.out] at hp2
          have hk : (ss ++ s2).mergeSort leB = keysOf ea eb := mergeSort_of_perm (HP1.out.append hp2)
          have hl : (keysOf ea eb).length = m + m2 := by rw [← hk]; simp [HM.out, HM2.out]
          have HK := Lib.hid hk
          have HL := Lib.hid hl
          have hts : (ss ++ s2).length = m + m2 := by simp [HM.out, HM2.out]
          have HTS := Lib.hid hts
          clear hall hp2 hk hl hts HIQ HI hS HSS hBr
          rcases hrow1.2 with ⟨rfl, h0⟩ | ⟨g, cap, cur, rfl, hbase, hb, h1, h2, h3, h4⟩
          · have hz0 : keysOf ea eb = [] := by
              exact List.length_eq_zero_iff.1 (HL.out.trans h0)
            have HZ := Lib.hid hz0
            clear hz0 h0 hrow1
            go_wp2_with (go_at_call 67; refine (sort_none _ _ _).mono ?_; rintro e w' ⟨rfl, rfl⟩)
            go_ret
            exact ⟨_, rfl, hbel, by rw [HZ.out]; exact ⟨by simp, .inl ⟨rfl, by simp⟩⟩⟩
          · have hH : Holds encStr wr g 0 (ss ++ s2).toArray := holds_of_block hb (by rw [HTS.out]; simpa using h4)
            have hgl : g < wr.heap.size := (Array.getElem?_eq_some_iff.1 hb).1
            have hc := sort_some g cap (ss ++ s2) wr hH hgl (by rw [HTS.out]; omega)
            rw [HTS.out] at hc
            have HC := Lib.hid hc
            clear hc hH
            go_wp2_with (go_at_call 67; refine HC.out.mono ?_; rintro e w' ⟨rfl, nn, os, rfl⟩)
            go_ret
            refine ⟨_, rfl, hbel.grown (grownBy_sorted _) (by omega) (fun j hj => by cases hj; exact hbase), ?_⟩
            have h9 := ownsRow_sorted (n := nn) (os := os) (ss := ss ++ s2) (ts := (ss ++ s2).mergeSort leB) (by simp) hbase hb (by rw [HTS.out]; exact h1) h2 h3
            rw [HTS.out] at h9
            rw [HL.out]
            rw [HK.out] at h9
            have h10 := HK.out
            unfold leB at h10
            first
              | exact h9
              | (rw [h10]; exact h9)
        · intro i hil w2 hns hI2 hB2 hg2 hs2 hen
          rw [HQB.out] at hI2
          have hse := hS.push (by rw [← HQB.out]; exact hil) hns
          have hsl2 := hse.size
          have hgot := got_push (p := fresh ea) (es := eb) (seen := seen) hil
          have hrow2 := hrow1.kept hg2 (Or.inr (it_ne_own hrow1 HI.out).symm)
          have hsz2 : r2 < w2.heap.size := by have := hg2.size; omega
          have hbel2 := hbel.grown hg2 (by omega) (fun j hj => by cases hj; omega)
          have hA2 := hA.below hbel2 hba
          obtain ⟨ki, hki⟩ : ∃ k, eb[i].1 = k := ⟨_, rfl⟩
          obtain ⟨vi, hvi⟩ : ∃ v, eb[i].2 = v := ⟨_, rfl⟩
          rw [hki, hvi] at hen ⊢
          have hfr : fresh ea eb[i] = (look ea ki).isNone := by unfold fresh; rw [hki]
          rw [hki, hfr] at hgot
          have HSE := Lib.hid hse
          have HI2 := Lib.hid hI2
          simp only [Array.size_push] at hsl2
          clear hs2 hki hvi hB2 hBr hns hI2 hfr HAR HIQ
          cases hl : look ea ki with
          | some v0 =>
            obtain ⟨y, cs', rfl, hy⟩ := HF.out.shape hl
            obtain ⟨ee1, ee2, ee3, ee4, ee5, aa6, nn6, mm6, aa7, nn7, mm7, ee8, ee9, aa10, nn10, mm10, rfl⟩ := CR_head hy
            obtain ⟨sy, hsy⟩ : ∃ s, y.n = s := ⟨_, rfl⟩
            rw [hsy] at hl
            rw [hl] at hgot
            have HL := Lib.hid hl
            have HG := Lib.hid hgot
            clear hl hy hsy hgot
            go_wp2_with (first
              | (at_lookup; refine wpList_look _ rfl _ _ 79 rfl 9 70 Tryz.underlying79 Tryz.underlying9 zC (zero_C _) ba ea rfl hA2 ki rfl (some _) HL.out ?_; simp only [Option.getD_some, Option.isSome_some])
              | go_in)
            go_roundw
            case rel => exact ⟨seen.push i, HSE.out, HI2.out.alloc _, by simp; omega, hbel2.alloc (by omega) _, by
              rw [HG.out, HSS.out]
              simp only [Option.isNone_some, Bool.false_eq_true, if_false, List.append_nil, List.length_append, HM.out, HM2.out]
              exact hrow2.alloc _⟩
            case measure => rw [toCome_eq (HI2.out.alloc _), toCome_eq HI.out]; simp; omega
          | none =>
            rw [hl] at hgot
            have HL := Lib.hid hl
            have HG := Lib.hid hgot
            clear hl hgot
            go_wp2_with (first
              | (at_lookup; refine wpList_look _ rfl _ _ 79 rfl 9 70 Tryz.underlying79 Tryz.underlying9 zC (zero_C _) ba ea rfl hA2 ki rfl none HL.out ?_; simp only [Option.getD_none, Option.isSome_none, zC])
              | (at_builtin; refine wpList_append_own_at _ rfl _ _ 57 rfl w.heap.size 9 i0 (.string ⟨#[]⟩) 1 16 Tryz.underlying57 hi hz0 hz1 hz2 rfl (by decide) _ _ _ rfl ((hrow2.alloc _).alloc _) ⟨w2.heap.size + 1, 0, none⟩ 1 1 [encStr (bk ki)] rfl rfl (by rw [enc_bk]; exact cell_one_new2 _ _ _ _) (by simp [Value.oneCell', encStr]) (by unfold maxLen; omega) (by omega) (by simp; omega) ?_; intro v' w3 hown' hgrow hnil hloc)
              | go_in)
            go_roundw
            case rel =>
              have hit3 := ((HI2.out.alloc _).alloc _).grown hgrow (it_ne_own hrow2 HI2.out)
              refine ⟨seen.push i, HSE.out, hit3, by have := hgrow.size; simp at this; omega, ((hbel2.alloc (by omega) _).alloc (by simp; omega) _).grown hgrow (by simp; omega) (fun j hj => (hrow2.lt j hj).1), ?_⟩
              rw [HG.out, HSS.out]
              simp only [Option.isNone_none, if_true, List.length_append, HM.out, HM2.out, ← List.append_assoc]
              simpa [Nat.add_assoc] using hown'
            case measure =>
              have hit3 := ((HI2.out.alloc _).alloc _).grown hgrow (it_ne_own hrow2 HI2.out)
              rw [toCome_eq hit3, toCome_eq HI.out]; simp; omega
    · intro i hil w2 hns hI2 hA2 hg2 hs2 hen
      rw [HQA.out] at hI2
      have hse := hS.push (by rw [← HQA.out]; exact hil) hns
      have hsl2 := hse.size
      have hgot := got_push (p := all) (es := ea) (seen := seen) hil
      have hrow2 := hrow.kept hg2 (Or.inr (it_ne_own hrow HI.out).symm)
      have hsz2 : w.heap.size < w2.heap.size := by have := hg2.size; omega
      have hbel2 := hbel.grown hg2 (by omega) (fun j hj => by cases hj; exact Nat.le_refl _)
      obtain ⟨ki, hki⟩ : ∃ k, ea[i].1 = k := ⟨_, rfl⟩
      obtain ⟨vi, hvi⟩ : ∃ v, ea[i].2 = v := ⟨_, rfl⟩
      rw [hki, hvi] at hen ⊢
      rw [hki] at hgot
      have HG := Lib.hid hgot
      have HSE := Lib.hid hse
      have HI2 := Lib.hid hI2
      simp only [Array.size_push] at hsl2
      clear hs2 hki hvi hA2 hAr hgot hns hI2
      go_wp2_with (first
        | (at_builtin; refine wpList_append_own_at _ rfl _ _ 57 rfl w.heap.size 9 i0 (.string ⟨#[]⟩) 1 16 Tryz.underlying57 hi hz0 hz1 hz2 rfl (by decide) _ _ _ rfl (hrow2.alloc _) ⟨w2.heap.size, 0, none⟩ 1 1 [encStr (bk ki)] rfl rfl (by rw [enc_bk]; exact cell_one_new _ _ _) (by simp [Value.oneCell', encStr]) (by unfold maxLen; omega) (by omega) (by simp; omega) ?_; intro v' w3 hown' hgrow hnil hloc)
        | go_in)
      go_roundw
      case rel =>
        have hit3 := (HI2.out.alloc _).grown hgrow (it_ne_own hrow2 HI2.out)
        refine ⟨seen.push i, HSE.out, hit3, by have := hgrow.size; simp at this; omega, (hbel2.alloc (by omega) _).grown hgrow (by simp; omega) (fun j hj => (hrow2.lt j hj).1), ?_⟩
        rw [HG.out, HSS.out]
        simp only [all, if_true, List.length_append, HM.out]
        simpa using hown'
      case measure =>
        have hit3 := (HI2.out.alloc _).grown hgrow (it_ne_own hrow2 HI2.out)
        rw [toCome_eq hit3, toCome_eq HI.out]; simp; omega
set_option maxRecDepth 100000 in
set_option maxHeartbeats 4000000 in
theorem keys_I (w w0 : World) (B : Nat) (la : List I) (ba bb : Nat) (ea eb : List En) (hA : MAt w ba ea) (hB : MAt w bb eb) (hF : Firsts (IR w0 B) (fun x : I => x.k) ea la) (na : ea.length ≤ 1048576) (nb : eb.length ≤ 1048576) :
    Calls Tryz.prog 34 #[.map (some ba), .map (some bb)] w fun e w' => ∃ v, e = .returned v ∧ Below w.heap.size w w' ∧ w'.ownsRow w.heap.size 9 1 v (keysOf ea eb).length ((keysOf ea eb).map encStr) := by
  obtain ⟨i0, hi, hz0, hz1, hz2⟩ := info_parts info9
  have hba := hA.lt
  have hbb := hB.lt
  have HF := Lib.hid hF
  obtain ⟨qa, hqa⟩ : ∃ q, ea.length = q := ⟨_, rfl⟩
  obtain ⟨qb, hqb⟩ : ∃ q, eb.length = q := ⟨_, rfl⟩
  have HQA := Lib.hid hqa
  have HQB := Lib.hid hqb
  rw [hqa] at na
  rw [hqb] at nb
  clear hF hqa hqb
  go_enter Tryz.func34, Tryz.ntmps34
  go_wp2_with (first
    | (at_range; refine wpList_range_at _ rfl _ 86 rfl 9 75 Tryz.underlying86 ba ea rfl hA ?_; rw [HQA.out])
    | go_in)
  go_frame
  go_loopw [5] (fun v wr => ∃ (seen : Array Nat), Seen qa seen ∧ ItAt wr w.heap.size ba qa seen ∧ w.heap.size < wr.heap.size ∧ Below w.heap.size w wr ∧
      wr.ownsRow w.heap.size 9 1 v (seen.toList.filterMap (got all ea)).length ((seen.toList.filterMap (got all ea)).map encStr)) (fun _ wr => toCome wr w.heap.size qa)
  case atStart => exact ⟨#[], Seen.nil _, ItAt.made w ba qa, by simp, (Below.refl _ _).alloc (Nat.le_refl _) _, by first | exact World.ownsRow_nil _ _ _ _ | exact ⟨by simp, .inl ⟨rfl, by simp⟩⟩⟩
  case round =>
    obtain ⟨seen, hS, hI, hsz, hbel, hrow⟩ := hrel
    have hAr := hA.below hbel hba
    have hsl := hS.size
    have hgl := got_len all ea seen
    have HI := Lib.hid hI
    have HIQ : Hid (ItAt wr w.heap.size ba ea.length seen) := by rw [HQA.out]; exact hI
    obtain ⟨ss, hss⟩ : ∃ ss, seen.toList.filterMap (got all ea) = ss := ⟨_, rfl⟩
    have HSS := Lib.hid hss
    rw [hss] at hgl hrow
    obtain ⟨m, hm⟩ : ∃ m, ss.length = m := ⟨_, rfl⟩
    have HM := Lib.hid hm
    rw [hm] at hgl hrow
    clear hI hss hm
    go_wp2_with (first
      | (at_next; refine wpList_next_at _ rfl _ rfl w.heap.size ba ea seen rfl hAr HIQ.out ?_ ?_)
      | go_in)
    · intro hall
      have hp1 := all_got (p := all) (es := ea) (by rw [HQA.out]; exact hS) hall
      rw [HSS.out] at hp1
      have HP1 := Lib.hid hp1
      have hgl1 : m ≤ qa := by omega
      have hBr := hB.below hbel hbb
      clear hall hp1 hAr hgl hsl HSS HIQ HI hS
      go_wp2_with (first
        | (at_range; refine wpList_range_at _ rfl _ 86 rfl 9 75 Tryz.underlying86 bb eb rfl hBr ?_; rw [HQB.out])
        | go_in)
      go_frame
      obtain ⟨r2, hr2⟩ : ∃ r, wr.heap.size = r := ⟨_, rfl⟩
      have hI0 := ItAt.made wr bb qb
      have hw0 : r2 < (wr.alloc (.mapIter (some bb) qb #[] qb)).heap.size := by simp; omega
      have hb0 := hbel.alloc (by omega) (.mapIter (some bb) qb #[] qb)
      have hrow0 := hrow.alloc (.mapIter (some bb) qb #[] qb)
      rw [hr2] at hI0 ⊢
      have hr2s : w.heap.size < r2 := by omega
      generalize wr.alloc (.mapIter (some bb) qb #[] qb) = wq at hI0 hw0 hb0 hrow0 ⊢
      clear hr2 hrow hbel hsz hBr
      go_loopw [5] (fun v wr => ∃ (seen : Array Nat), Seen qb seen ∧ ItAt wr r2 bb qb seen ∧ r2 < wr.heap.size ∧ Below w.heap.size w wr ∧
          wr.ownsRow w.heap.size 9 1 v (ss ++ seen.toList.filterMap (got (fresh ea) eb)).length ((ss ++ seen.toList.filterMap (got (fresh ea) eb)).map encStr)) (fun _ wr => toCome wr r2 qb)
      case atStart => exact ⟨#[], Seen.nil _, hI0, hw0, hb0, by simpa [HM.out] using hrow0⟩
      case round =>
        obtain ⟨seen, hS, hI, hsz, hbel, hrow⟩ := hrel
        clear hI0 hw0 hb0 hrow0
        have hAr := hA.below hbel hba
        have hBr := hB.below hbel hbb
        have hsl := hS.size
        have hgl := got_len (fresh ea) eb seen
        have HI := Lib.hid hI
        have HIQ : Hid (ItAt wr r2 bb eb.length seen) := by rw [HQB.out]; exact hI
        obtain ⟨s2, hs2⟩ : ∃ s2, seen.toList.filterMap (got (fresh ea) eb) = s2 := ⟨_, rfl⟩
        have HSS := Lib.hid hs2
        rw [hs2] at hgl hrow
        obtain ⟨m2, hm2⟩ : ∃ m2, s2.length = m2 := ⟨_, rfl⟩
        have HM2 := Lib.hid hm2
        rw [hm2] at hgl
        rw [List.length_append, HM.out, hm2] at hrow
        have hrow1 := hrow
        have HAR := Lib.hid hAr
        clear hI hs2 hm2 hrow hAr
        go_wp2_with (first
          | (at_next; refine wpList_next_at _ rfl _ rfl r2 bb eb seen rfl hBr HIQ.out ?_ ?_)
          | go_in)
        · intro hall
          have hp2 := all_got (p := fresh ea) (es := eb) (by rw [HQB.out]; exact hS) hall
          rw [HSS.out] at hp2
          have hk : (ss ++ s2).mergeSort leB = keysOf ea eb := mergeSort_of_perm (HP1.out.append hp2)
          have hl : (keysOf ea eb).length = m + m2 := by rw [← hk]; simp [HM.out, HM2.out]
          have HK := Lib.hid hk
          have HL := Lib.hid hl
          have hts : (ss ++ s2).length = m + m2 := by simp [HM.out, HM2.out]
          have HTS := Lib.hid hts
          clear hall hp2 hk hl hts HIQ HI hS HSS hBr
          rcases hrow1.2 with ⟨rfl, h0⟩ | ⟨g, cap, cur, rfl, hbase, hb, h1, h2, h3, h4⟩
          · have hz0 : keysOf ea eb = [] := by
              exact List.length_eq_zero_iff.1 (HL.out.trans h0)
            have HZ := Lib.hid hz0
            clear hz0 h0 hrow1
            go_wp2_with (go_at_call 67; refine (sort_none _ _ _).mono ?_; rintro e w' ⟨rfl, rfl⟩)
            go_ret
            exact ⟨_, rfl, hbel, by rw [HZ.out]; exact ⟨by simp, .inl ⟨rfl, by simp⟩⟩⟩
          · have hH : Holds encStr wr g 0 (ss ++ s2).toArray := holds_of_block hb (by rw [HTS.out]; simpa using h4)
            have hgl : g < wr.heap.size := (Array.getElem?_eq_some_iff.1 hb).1
            have hc := sort_some g cap (ss ++ s2) wr hH hgl (by rw [HTS.out]; omega)
            rw [HTS.out] at hc
            have HC := Lib.hid hc
            clear hc hH
            go_wp2_with (go_at_call 67; refine HC.out.mono ?_; rintro e w' ⟨rfl, nn, os, rfl⟩)
            go_ret
            refine ⟨_, rfl, hbel.grown (grownBy_sorted _) (by omega) (fun j hj => by cases hj; exact hbase), ?_⟩
            have h9 := ownsRow_sorted (n := nn) (os := os) (ss := ss ++ s2) (ts := (ss ++ s2).mergeSort leB) (by simp) hbase hb (by rw [HTS.out]; exact h1) h2 h3
            rw [HTS.out] at h9
            rw [HL.out]
            rw [HK.out] at h9
            have h10 := HK.out
            unfold leB at h10
            first
              | exact h9
              | (rw [h10]; exact h9)
        · intro i hil w2 hns hI2 hB2 hg2 hs2 hen
          rw [HQB.out] at hI2
          have hse := hS.push (by rw [← HQB.out]; exact hil) hns
          have hsl2 := hse.size
          have hgot := got_push (p := fresh ea) (es := eb) (seen := seen) hil
          have hrow2 := hrow1.kept hg2 (Or.inr (it_ne_own hrow1 HI.out).symm)
          have hsz2 : r2 < w2.heap.size := by have := hg2.size; omega
          have hbel2 := hbel.grown hg2 (by omega) (fun j hj => by cases hj; omega)
          have hA2 := hA.below hbel2 hba
          obtain ⟨ki, hki⟩ : ∃ k, eb[i].1 = k := ⟨_, rfl⟩
          obtain ⟨vi, hvi⟩ : ∃ v, eb[i].2 = v := ⟨_, rfl⟩
          rw [hki, hvi] at hen ⊢
          have hfr : fresh ea eb[i] = (look ea ki).isNone := by unfold fresh; rw [hki]
          rw [hki, hfr] at hgot
          have HSE := Lib.hid hse
          have HI2 := Lib.hid hI2
          simp only [Array.size_push] at hsl2
          clear hs2 hki hvi hB2 hBr hns hI2 hfr HAR HIQ
          cases hl : look ea ki with
          | some v0 =>
            obtain ⟨y, cs', rfl, hy⟩ := HF.out.shape hl
            obtain ⟨ee1, ee3, ee4, ee5, aa6, nn6, mm6, aa7, nn7, mm7, rfl⟩ := IR_head hy
            obtain ⟨sy, hsy⟩ : ∃ s, y.k = s := ⟨_, rfl⟩
            rw [hsy] at hl
            rw [hl] at hgot
            have HL := Lib.hid hl
            have HG := Lib.hid hgot
            clear hl hy hsy hgot
            go_wp2_with (first
              | (at_lookup; refine wpList_look _ rfl _ _ 86 rfl 9 75 Tryz.underlying86 Tryz.underlying9 zI (zero_I _) ba ea rfl hA2 ki rfl (some _) HL.out ?_; simp only [Option.getD_some, Option.isSome_some])
              | go_in)
            go_roundw
            case rel => exact ⟨seen.push i, HSE.out, HI2.out.alloc _, by simp; omega, hbel2.alloc (by omega) _, by
              rw [HG.out, HSS.out]
              simp only [Option.isNone_some, Bool.false_eq_true, if_false, List.append_nil, List.length_append, HM.out, HM2.out]
              exact hrow2.alloc _⟩
            case measure => rw [toCome_eq (HI2.out.alloc _), toCome_eq HI.out]; simp; omega
          | none =>
            rw [hl] at hgot
            have HL := Lib.hid hl
            have HG := Lib.hid hgot
            clear hl hgot
            go_wp2_with (first
              | (at_lookup; refine wpList_look _ rfl _ _ 86 rfl 9 75 Tryz.underlying86 Tryz.underlying9 zI (zero_I _) ba ea rfl hA2 ki rfl none HL.out ?_; simp only [Option.getD_none, Option.isSome_none, zI])
              | (at_builtin; refine wpList_append_own_at _ rfl _ _ 57 rfl w.heap.size 9 i0 (.string ⟨#[]⟩) 1 16 Tryz.underlying57 hi hz0 hz1 hz2 rfl (by decide) _ _ _ rfl ((hrow2.alloc _).alloc _) ⟨w2.heap.size + 1, 0, none⟩ 1 1 [encStr (bk ki)] rfl rfl (by rw [enc_bk]; exact cell_one_new2 _ _ _ _) (by simp [Value.oneCell', encStr]) (by unfold maxLen; omega) (by omega) (by simp; omega) ?_; intro v' w3 hown' hgrow hnil hloc)
              | go_in)
            go_roundw
            case rel =>
              have hit3 := ((HI2.out.alloc _).alloc _).grown hgrow (it_ne_own hrow2 HI2.out)
              refine ⟨seen.push i, HSE.out, hit3, by have := hgrow.size; simp at this; omega, ((hbel2.alloc (by omega) _).alloc (by simp; omega) _).grown hgrow (by simp; omega) (fun j hj => (hrow2.lt j hj).1), ?_⟩
              rw [HG.out, HSS.out]
              simp only [Option.isNone_none, if_true, List.length_append, HM.out, HM2.out, ← List.append_assoc]
              simpa [Nat.add_assoc] using hown'
            case measure =>
              have hit3 := ((HI2.out.alloc _).alloc _).grown hgrow (it_ne_own hrow2 HI2.out)
              rw [toCome_eq hit3, toCome_eq HI.out]; simp; omega
    · intro i hil w2 hns hI2 hA2 hg2 hs2 hen
      rw [HQA.out] at hI2
      have hse := hS.push (by rw [← HQA.out]; exact hil) hns
      have hsl2 := hse.size
      have hgot := got_push (p := all) (es := ea) (seen := seen) hil
      have hrow2 := hrow.kept hg2 (Or.inr (it_ne_own hrow HI.out).symm)
      have hsz2 : w.heap.size < w2.heap.size := by have := hg2.size; omega
      have hbel2 := hbel.grown hg2 (by omega) (fun j hj => by cases hj; exact Nat.le_refl _)
      obtain ⟨ki, hki⟩ : ∃ k, ea[i].1 = k := ⟨_, rfl⟩
      obtain ⟨vi, hvi⟩ : ∃ v, ea[i].2 = v := ⟨_, rfl⟩
      rw [hki, hvi] at hen ⊢
      rw [hki] at hgot
      have HG := Lib.hid hgot
      have HSE := Lib.hid hse
      have HI2 := Lib.hid hI2
      simp only [Array.size_push] at hsl2
      clear hs2 hki hvi hA2 hAr hgot hns hI2
      go_wp2_with (first
        | (at_builtin; refine wpList_append_own_at _ rfl _ _ 57 rfl w.heap.size 9 i0 (.string ⟨#[]⟩) 1 16 Tryz.underlying57 hi hz0 hz1 hz2 rfl (by decide) _ _ _ rfl (hrow2.alloc _) ⟨w2.heap.size, 0, none⟩ 1 1 [encStr (bk ki)] rfl rfl (by rw [enc_bk]; exact cell_one_new _ _ _) (by simp [Value.oneCell', encStr]) (by unfold maxLen; omega) (by omega) (by simp; omega) ?_; intro v' w3 hown' hgrow hnil hloc)
        | go_in)
      go_roundw
      case rel =>
        have hit3 := (HI2.out.alloc _).grown hgrow (it_ne_own hrow2 HI2.out)
        refine ⟨seen.push i, HSE.out, hit3, by have := hgrow.size; simp at this; omega, (hbel2.alloc (by omega) _).grown hgrow (by simp; omega) (fun j hj => (hrow2.lt j hj).1), ?_⟩
        rw [HG.out, HSS.out]
        simp only [all, if_true, List.length_append, HM.out]
        simpa using hown'
      case measure =>
        have hit3 := (HI2.out.alloc _).grown hgrow (it_ne_own hrow2 HI2.out)
        rw [toCome_eq hit3, toCome_eq HI.out]; simp; omega
end Go.Proofs.YtbjmakigdglghaaGreatDoor.Dd
