/- append: abstract, and what it says of the real run. -/
import Derived.Test.YtnckhmfajjcgpaaGreatDoorEvB
import Derived.Deep.Upon
import Derived.MapKept
import Derived.Laws.MakeOwn
set_option linter.unusedVariables false
set_option linter.unusedSimpArgs false
set_option linter.unusedSectionVars false
namespace Go.Proofs.YtnckhmfajjcgpaaGreatDoor.Ev
noncomputable section
section
variable {P : Program} {X : Tab} {σ : Ren} {S : Ids} {H : AH} {W : World} {B : Nat}
/-- what is appended: its elements' number, its cells -/
def asrc (X : Tab) (H : AH) (tx : TypeId) (size : Nat) (x : Value) : Option (Nat × List Value) := do
  let d ← X.und tx
  match d, x with
  | .string, .string s => cond (Nat.beq size 1) (some (s.size, byteCells s)) none
  | .slice _, .slice none _ _ => some (0, [])
  | .slice _, .slice (some ⟨b, off, none⟩) n _ => do
    let (cs, _, _) ← cellsAt H b
    cond (Nat.beq ((cs.drop off).take (n * size)).length (n * size) && ((cs.drop off).take (n * size)).all one) (some (n, (cs.drop off).take (n * size))) none
  | _, _ => none
theorem src_sound (hX : TabOk P X) (h : Rep σ S H W B) {tx : TypeId} {size n : Nat} {x x' : Value} {news : List Value} (hx : VR σ S x x') (ha : asrc X H tx size x = some (n, news)) :
    ∃ news', Src P size tx x' n news' W ∧ VRs σ S news news' ∧ news.length = n * size := by
  unfold asrc at ha
  simp only [Option.bind_eq_bind, Option.bind_eq_some_iff] at ha
  obtain ⟨d, h1, h2⟩ := ha
  have e1 := hX.und tx _ h1
  split at h2
  · rename_i s
    cases hs : Nat.beq size 1 with
    | false => rw [hs] at h2; cases h2
    | true =>
      rw [hs] at h2
      injection h2 with h2
      injection h2 with h2 h3
      subst h2 h3
      have hs1 : size = 1 := by simpa using hs
      subst hs1
      cases hx
      refine ⟨_, Src.ofString W e1 s, VRs.of_get rfl fun i v v' hv hv' => ?_, by rw [byteCells_length, Nat.mul_one]⟩
      rw [hv] at hv'
      injection hv' with hv'
      subst hv'
      obtain ⟨hi, he⟩ := List.getElem?_eq_some_iff.1 hv
      rw [← he]
      simp only [byteCells, List.getElem_map]
      exact .int _ _
  · injection h2 with h2
    injection h2 with h2 h3
    subst h2 h3
    cases hx
    exact ⟨[], Src.ofNil W e1 0, .nil, by simp⟩
  · rename_i b off n0 cap
    simp only [Option.bind_eq_some_iff] at h2
    obtain ⟨⟨cs, e, g⟩, h3, h4⟩ := h2
    cases hc : (Nat.beq ((cs.drop off).take (n0 * size)).length (n0 * size) && ((cs.drop off).take (n0 * size)).all one) with
    | false => simp only [hc] at h4; cases h4
    | true =>
      simp only [hc, cond_true] at h4
      injection h4 with h4
      injection h4 with h4 h5
      subst h4 h5
      simp only [Bool.and_eq_true, List.all_eq_true] at hc
      have hl : ((cs.drop off).take (n0 * size)).length = n0 * size := by simpa using hc.1
      cases hx with
      | slice _ _ _ _ cap' a' hb hle hm hi =>
        obtain ⟨i, c', lo, hi', hs, hh, hcs, _⟩ := h.cells_ h3
        obtain ⟨rfl, _⟩ := hi i hs
        obtain ⟨rs, k1, k2, k3⟩ := range_real hcs hl
        refine ⟨rs, Src.ofSlice W e1 _ n0 cap' rs k1 (fun j u hu => by rw [Addr.add_mid, cell_of hh]; exact k3 j u hu) fun u hu => ?_, k2, hl⟩
        obtain ⟨j, hj, rfl⟩ := List.getElem_of_mem hu
        obtain ⟨u', g1, g2⟩ := k2.get (List.getElem?_eq_getElem (by rw [k2.length]; exact hj))
        rw [List.getElem?_eq_getElem hj] at g1
        injection g1 with g1
        rw [g1, one_vr g2]
        exact hc.2 _ (List.getElem_mem _)
  · cases h2
def aappend (X : Tab) (H : AH) (t tx : TypeId) (s x : Value) : Option (Value × AH) := do
  let d ← X.und t
  match d with
  | .slice e => do
    let it ← X.inf e
    let z ← it.zero
    let (n, news) ← asrc X H tx it.size x
    cond (Nat.beq n 0) (match s with
      | .slice _ _ _ => some (s, H)
      | _ => none)
      (cond (Nat.beq z.cells.size it.size && Nat.ble it.bytes 1048576) (match s with
        | .slice none _ _ => cond (Nat.ble n 1048576) (do
            let (id, H') ← H.new (.cells news e (some it.size))
            some (.slice (some ⟨id, 0, none⟩) n n, H')) none
        | .slice (some ⟨b, off, none⟩) len cap => do
            let (cs, el, g) ← cellsAt H b
            cond (Nat.ble (len + n) 1048576 && Nat.beq ((cs.drop off).take (len * it.size)).length (len * it.size)) (match g with
              | none => cond (Nat.ble (len + n) cap) (cond (Nat.ble (off + len * it.size + news.length) cs.length && Nat.blt b 16777215)
                    (some (.slice (some ⟨b, off, none⟩) (len + n) cap, H.put b (.cells (wr cs news (off + len * it.size)) el none))) none)
                  (do
                    let (id, H') ← H.new (.cells ((cs.drop off).take (len * it.size) ++ news) e (some it.size))
                    some (.slice (some ⟨id, 0, none⟩) (len + n) (len + n), H'))
              | some q => cond (Nat.beq q it.size && Nat.beq el e && Nat.blt b 16777215) (do
                    let (id, H') ← (H.kill b).new (.cells ((cs.drop off).take (len * it.size) ++ news) e (some it.size))
                    some (.slice (some ⟨id, 0, none⟩) (len + n) (len + n), H')) none) none
        | _ => none) none)
  | _ => none
/-- append that makes a new row -/
theorem grow_shows (hX : TabOk P X) (h : Rep σ S H W B) (hfree : ¬ S H.next) (hB : B ≤ W.heap.size) {t tx ty e : TypeId} {it : TypeInfo} {z x' : Value} (kb : Option Nat) (hkb : ∀ b, kb = some b → b ≠ H.next ∧ b < 16777215) (h1 : X.und t = some (.slice e)) (h2 : X.inf e = some it) (h3 : it.zero = some z)
    (hz : z.cells.size = it.size) (hby : it.bytes ≤ 1048576) {n len cap' : Nat} {base : Option Addr} {olds olds' news news' : List Value} (ho : VRs σ S olds olds') (hn : VRs σ S news news') (hol : olds.length = len * it.size) (hnl : news.length = n * it.size) (hs : Src P it.size tx x' n news' W)
    (hfirst : (Builtin.firstCells it.size len (.slice base len cap')).run P W.drew = .ok olds'.toArray W.drew) (hg : cap' < len + n) (hlen : len + n ≤ 1048576) {id : Nat} {H' : AH} (hnew : (match kb with | some b => H.kill b | none => H).new (.cells (olds ++ news) e (some it.size)) = some (id, H')) :
    Shows P σ S H W B (Builtin.append_ #[t, tx] ty #[.slice base len cap', x']) (.slice (some ⟨id, 0, none⟩) (len + n) (len + n)) H' := by
  have hfit : Builtin.nextslicecap (len + n) cap' * it.bytes ≤ 281474976710656 := growslice_fits hg (by
    have : (len + n) * it.bytes ≤ 1048576 * 1048576 := Nat.mul_le_mul hlen hby
    omega)
  have hrun := run_append_grow_src W t tx ty e it z (hX.und t _ h1) (hX.inf e it h2) h3 base len cap' olds' hfirst x' n news' hs hg (by omega) hfit
  have hgc1 := grownCap_ge W (len + n) cap' e
  have hgc2 := grownCap_le_maxLen W (len + n) cap' e (by simp [maxLen]; omega)
  generalize grownCap W (len + n) cap' e = nc at hrun hgc1 hgc2
  have hzl : (Builtin.zeroCells z.cells (nc - (len + n))).size = (nc - (len + n)) * it.size := by simp [Builtin.zeroCells, hz]
  have hsz : ((olds' ++ news').toArray ++ Builtin.zeroCells z.cells (nc - (len + n))).size = nc * it.size := by
    rw [Array.size_append, hzl]
    simp only [List.size_toArray, List.length_append]
    rw [← ho.length, ← hn.length, hol, hnl, ← Nat.add_mul, ← Nat.add_mul]
    congr 1
    omega
  generalize hc' : (olds' ++ news').toArray ++ Builtin.zeroCells z.cells (nc - (len + n)) = c' at hrun hsz
  obtain ⟨σ', k1, k2, k3, k4, k6⟩ := h.turn hfree kb ⟨W.heap.size, 0, some (it.size, nc * it.size)⟩ (W' := W.drew.alloc (.cells c' e)) hnew hkb (.inl (Nat.le_refl _)) hB
    (fun k hk hlt => Go.RowKit.Below.heap_alloc W.drew _ k hlt) (by simp) rfl rfl rfl fun σ' hσ => ⟨c', 0, 0, Go.heap_alloc_new W.drew _, fun j v hj => by
      obtain ⟨v', a, b⟩ := (ho.append hn).get hj
      refine ⟨v', ?_, b.ext hσ⟩
      rw [← hc', Nat.zero_add, Array.getElem?_append_left (by
        have := (List.getElem?_eq_some_iff.1 a).1
        simpa using this)]
      simpa using a, fun j _ => by omega, rfl, by
        simp only [Nat.zero_add, List.length_append, hsz]
        rw [hol, hnl, ← Nat.add_mul]
        exact Nat.mul_le_mul_right _ hgc1, fun e => (by cases e), fun s tot hst => by injection hst with hst; injection hst with h5 h6; rw [hsz]; exact h6⟩
  subst k4
  exact ⟨σ', _, _, _, hrun, k2, k3, .slice _ _ _ _ _ _ (.inr rfl) hgc1 hgc2 fun i hi => (by rw [k1] at hi; injection hi with hi; subst hi; exact ⟨rfl, by simp [capOk]⟩), by rw [k6]; exact taken_more _ _⟩
set_option maxHeartbeats 1600000 in
theorem append_sound (hX : TabOk P X) (h : Rep σ S H W B) (hfree : ¬ S H.next) (hB : B ≤ W.heap.size) {t tx ty : TypeId} {s s' x x' r : Value} {H' : AH} (hs : VR σ S s s') (hx : VR σ S x x') (ha : aappend X H t tx s x = some (r, H')) :
    Shows P σ S H W B (Builtin.append_ #[t, tx] ty #[s', x']) r H' := by
  unfold aappend at ha
  simp only [Option.bind_eq_bind, Option.bind_eq_some_iff] at ha
  obtain ⟨d, h1, h2⟩ := ha
  split at h2
  case h_2 => cases h2
  rename_i e
  simp only [Option.bind_eq_some_iff] at h2
  obtain ⟨it, h3, z, h4, ⟨n, news⟩, h5, h6⟩ := h2
  obtain ⟨news', q1, q2, q3⟩ := src_sound hX h hx h5
  have e1 := hX.und t _ h1
  have e2 := hX.inf e it h3
  cases hn : Nat.beq n 0 with
  | true =>
    have hn0 : n = 0 := by simpa using hn
    subst hn0
    have : news = [] := List.eq_nil_of_length_eq_zero (by simpa using q3)
    subst this
    cases q2
    rw [hn] at h6
    simp only [cond_true] at h6
    split at h6
    · injection h6 with h6
      injection h6 with h6 h7
      subst h6 h7
      cases hs with
      | sliceNil => exact Shows.pure_ h (run_append_nothing W t tx ty e it e1 e2 none 0 0 (Nat.le_refl _) x' q1) .sliceNil
      | slice b off len cap cap' a' hb hl hm hi => exact Shows.pure_ h (run_append_nothing W t tx ty e it e1 e2 (some a') _ _ hl x' q1) (.slice _ _ _ _ _ _ hb hl hm hi)
    · cases h6
  | false =>
    have hn0 : 0 < n := by
      rcases Nat.eq_zero_or_pos n with h0 | h0
      · subst h0; simp at hn
      · exact h0
    rw [hn] at h6
    simp only [cond_false] at h6
    cases hc : (Nat.beq z.cells.size it.size && Nat.ble it.bytes 1048576) with
    | false => rw [hc] at h6; cases h6
    | true =>
      rw [hc] at h6
      simp only [cond_true] at h6
      simp only [Bool.and_eq_true, Nat.ble_eq] at hc
      obtain ⟨hz, hby⟩ := hc
      have hz : z.cells.size = it.size := by simpa using hz
      split at h6
      · cases hs with
        | sliceNil =>
          cases hc2 : Nat.ble n 1048576 with
          | false => rw [hc2] at h6; cases h6
          | true =>
            rw [hc2] at h6
            simp only [cond_true, Option.bind_eq_some_iff] at h6
            obtain ⟨⟨id, H1⟩, h7, h8⟩ := h6
            injection h8 with h8
            injection h8 with h8 h9
            subst h8 h9
            have hn48 : 0 + n ≤ 1048576 := by
              have : n ≤ 1048576 := by simpa using hc2
              omega
            have := grow_shows (ty := ty) hX h hfree hB none (fun b e => (by cases e)) h1 h3 h4 hz hby (cap' := 0) (base := none) (olds := []) (olds' := []) (len := 0) .nil q2 (by simp) q3 q1 (by simp [Builtin.firstCells]) (by omega) hn48 (id := id) (H' := H1) (by simpa using h7)
            simpa using this
      · rename_i b off len cap
        simp only [Option.bind_eq_some_iff] at h6
        obtain ⟨⟨cs, el, g⟩, h7, h8⟩ := h6
        simp only at h8
        cases hc2 : (Nat.ble (len + n) 1048576 && Nat.beq ((cs.drop off).take (len * it.size)).length (len * it.size)) with
        | false => rw [hc2] at h8; cases h8
        | true =>
          rw [hc2] at h8
          simp only [cond_true] at h8
          simp only [Bool.and_eq_true, Nat.ble_eq] at hc2
          obtain ⟨hlen, hol⟩ := hc2
          have hol : ((cs.drop off).take (len * it.size)).length = len * it.size := by simpa using hol
          cases hs with
          | slice _ _ _ _ cap' a' hb hl hm hi =>
            obtain ⟨i, c', lo, hi', hsb, hh, hcs, hfz, hg, hcl, hex, hgr, hBi, hbn⟩ := h.cells_ h7
            obtain ⟨rfl, hcap⟩ := hi i hsb
            obtain ⟨olds', k1, k2, k3⟩ := range_real hcs hol
            have hfirst : (Builtin.firstCells it.size len (.slice (some ⟨i.blk, i.base + off, none⟩) len cap')).run P W.drew = .ok olds'.toArray W.drew := by
              refine run_firstCells_some W.drew it.size len _ len cap' olds' k1 fun j u hu => ?_
              rw [Addr.add_mid]
              show W.cell? _ = _
              rw [cell_of hh]
              exact k3 j u hu
            split at h8
            · -- no spare that is not known
              have hgn : i.grow = none := by
                cases hq : i.grow with
                | none => rfl
                | some q => rw [hq] at hg; cases hg
              simp only [capOk, hgn] at hcap
              subst hcap
              cases hroom : Nat.ble (len + n) cap' with
              | true =>
                rw [hroom] at h8
                simp only [cond_true] at h8
                cases hc3 : (Nat.ble (off + len * it.size + news.length) cs.length && Nat.blt b 16777215) with
                | false => rw [hc3] at h8; cases h8
                | true =>
                  rw [hc3] at h8
                  injection h8 with h8
                  injection h8 with h8 h9
                  subst h8 h9
                  simp only [Bool.and_eq_true, Nat.ble_eq, Nat.blt_eq] at hc3
                  obtain ⟨i2, w0, w1, w2, w3, w4⟩ := h.write h7 hc3.1 q2 hc3.2
                  rw [hsb] at w0
                  injection w0 with w0
                  subst w0
                  refine ⟨σ, S, W.setCells i.blk (i.base + (off + len * it.size)) news', .slice (some ⟨i.blk, i.base + off, none⟩) (len + n) cap', ?_, w3, w4, .slice _ _ _ _ _ _ hb (by simpa using hroom) hm fun i2 hi2 => hi i2 hi2, Taken.refl _ _⟩
                  have := run_append_room_src W t tx ty e it e1 e2 i.blk (i.base + off) len cap' x' n news' q1 (by simpa using hroom) (fun j hj => by have := w1 j hj; rwa [show i.base + off + len * it.size + j = i.base + (off + len * it.size) + j from by omega]) (fun j hj => by have := w2 j hj; rwa [show i.base + off + len * it.size + j = i.base + (off + len * it.size) + j from by omega])
                  rw [this, show i.base + off + len * it.size = i.base + (off + len * it.size) from by omega]
              | false =>
                rw [hroom] at h8
                simp only [cond_false, Option.bind_eq_some_iff] at h8
                obtain ⟨⟨id, H1⟩, h9, h10⟩ := h8
                injection h10 with h10
                injection h10 with h10 h11
                subst h10 h11
                have hnr : cap' < len + n := by
                  rcases Nat.lt_or_ge cap' (len + n) with h0 | h0
                  · exact h0
                  · have : Nat.ble (len + n) cap' = true := by simpa using h0
                    rw [this] at hroom
                    cases hroom
                exact grow_shows (ty := ty) hX h hfree hB none (fun b e => (by cases e)) h1 h3 h4 hz hby k2 q2 hol q3 q1 hfirst hnr hlen h9
            · rename_i q
              obtain ⟨s0, tot, hgq⟩ : ∃ s0 tot, i.grow = some (s0, tot) := by
                cases hq : i.grow with
                | none => rw [hq] at hg; cases hg
                | some p => exact ⟨p.1, p.2, rfl⟩
              rw [hgq] at hg
              simp only [Option.map_some, Option.some.injEq] at hg
              subst hg
              simp only [capOk, hgq] at hcap
              cases hc3 : (Nat.beq q it.size && Nat.beq el e && Nat.blt b 16777215) with
              | false => rw [hc3] at h8; cases h8
              | true =>
                rw [hc3] at h8
                simp only [cond_true, Option.bind_eq_some_iff] at h8
                obtain ⟨⟨id, H1⟩, h9, h10⟩ := h8
                injection h10 with h10
                injection h10 with h10 h11
                subst h10 h11
                simp only [Bool.and_eq_true] at hc3
                have hq1 : q = it.size := by simpa using hc3.1.1
                have hq2 : el = e := by simpa using hc3.1.2
                have hbb : b < 16777215 := by simpa using hc3.2
                have hbn2 : b ≠ H.next := fun e => hfree (by rw [← e]; exact hbn)
                subst hq1 hq2
                rcases Nat.lt_or_ge cap' (len + n) with hnr | hroom
                · exact grow_shows (ty := ty) hX h hfree hB (some b) (fun b' e' => by injection e' with e'; subst e'; exact ⟨hbn2, hbb⟩) h1 h3 h4 hz hby k2 q2 hol q3 q1 hfirst hnr hlen h9
                · have htot := hgr _ _ hgq
                  have hml : (len + n) * it.size ≤ cap' * it.size := Nat.mul_le_mul_right _ hroom
                  rw [Nat.add_mul] at hml
                  have hnl := q2.length
                  obtain ⟨c2, g1, g2, g3, g4, g5, g6, g7, g8⟩ := setCells_heap (b := i.blk) (e := el) (fz := (lo, hi')) (W := W) (c := c') news' W c' (i.base + off + len * it.size) hh (by omega)
                  obtain ⟨σ', w1, w2, w3, w4, w6⟩ := h.turn hfree (some b) ⟨i.blk, i.base + off, some (it.size, tot)⟩ (W' := W.setCells i.blk (i.base + off + len * it.size) news') h9 (fun b' e' => by injection e' with e'; subst e'; exact ⟨hbn2, hbb⟩) (.inr ⟨b, i, rfl, hsb, rfl⟩) hBi
                    (fun k hk _ => g4 k hk) (by rw [g5]; exact Nat.le_refl _) g6 g7 g8 fun σ' hσ => ⟨c2, lo, hi', g1, fun j v hj => by
                      dsimp only
                      rw [g3]
                      rcases Nat.lt_or_ge j (len * it.size) with hj1 | hj1
                      · rw [if_neg (by omega)]
                        rw [List.getElem?_append_left (by omega)] at hj
                        obtain ⟨v', a1, a2⟩ := k2.get hj
                        exact ⟨v', k3 j v' a1, a2.ext hσ⟩
                      · rw [List.getElem?_append_right (by omega), hol] at hj
                        obtain ⟨v', a1, a2⟩ := q2.get hj
                        have hjl := (List.getElem?_eq_some_iff.1 a1).1
                        rw [if_pos (by omega)]
                        exact ⟨v', by rw [← a1]; congr 1; omega, a2.ext hσ⟩, by rw [g2]; exact hfz, rfl, by
                          simp only [List.length_append, hol, g2]
                          omega, fun e => (by cases e), fun s1 t1 hst => by injection hst with hst; injection hst with h5 h6; rw [g2, htot, h6]⟩
                  subst w4
                  refine ⟨σ', _, _, .slice (some ⟨i.blk, i.base + off, none⟩) (len + n) cap', run_append_room_src W t tx ty el it e1 e2 i.blk (i.base + off) len cap' x' n news' q1 hroom (fun j hj => ?_) (fun j hj => frozen_of hh (hfz _ (by omega))), w2, w3, .slice _ _ _ _ _ _ (.inr rfl) hroom hm fun i2 hi2 => ?_, by rw [w6]; exact taken_more _ _⟩
                  · rw [cell_of hh, Array.getElem?_eq_getElem (by omega)]
                    rfl
                  · rw [w1] at hi2
                    injection hi2 with hi2
                    subst hi2
                    exact ⟨rfl, by simp only [capOk]; omega⟩
      · cases h6
  
end
end
end Go.Proofs.YtnckhmfajjcgpaaGreatDoor.Ev
namespace Go.Proofs.YtnckhmfajjcgpaaGreatDoor.Ev
noncomputable section
open Go.MapKept
section
variable {P : Program} {X : Tab} {σ : Ren} {S : Ids} {H : AH} {W : World} {B : Nat}
def ERs (σ : Ren) (n : Ids) (es : List MapEntry) (es' : List MapEntry) : Prop := es.length = es'.length ∧ ∀ (j : Nat) (e : MapEntry), es[j]? = some e → ∃ e', es'[j]? = some e' ∧ ERel σ n e e'
theorem sameNow_true {d : TypeDesc} {a b : Value} (h : Instr.sameNow d a b = some true) : a = b := by
  unfold Instr.sameNow at h
  split at h
  · split at h
    · rename_i e
      injection h with h
      rw [beq_iff_eq] at h
      rw [e, h]
    · cases h
  · injection h with h
    rw [(bytes_beq _ _).1 h]
  · injection h with h
    rw [beq_iff_eq] at h
    rw [h]
  · cases h
theorem findNow_rel {σ : Ren} {n : Ids} {d : TypeDesc} {k : Value} : ∀ (l l' : List MapEntry) (i : Nat) (r : Option (Nat × Value)), ERs σ n l l' → Instr.findNow d k l i = some r →
    (r = none ∧ Instr.findNow d k l' i = some none) ∨ ∃ j e e', r = some (i + j, e.val) ∧ l[j]? = some e ∧ l'[j]? = some e' ∧ ERel σ n e e' ∧ e.key = k ∧ Instr.findNow d k l' i = some (some (i + j, e'.val))
  | [], l', i, r, h, hf => by
    have : l' = [] := List.eq_nil_of_length_eq_zero h.1.symm
    subst this
    simp only [Instr.findNow] at hf
    injection hf with hf
    exact .inl ⟨hf.symm, rfl⟩
  | e :: l, l', i, r, h, hf => by
    cases l' with
    | nil => have := h.1; simp at this
    | cons e' l' =>
      obtain ⟨e2, h1, hr⟩ := h.2 0 e rfl
      simp at h1
      subst h1
      simp only [Instr.findNow] at hf ⊢
      rw [hr.1]
      cases hs : Instr.sameNow d k e.key with
      | none => rw [hs] at hf; cases hf
      | some q =>
        rw [hs] at hf
        cases q with
        | true =>
          simp only at hf
          injection hf with hf
          exact .inr ⟨0, e, e', hf.symm, rfl, rfl, hr, (sameNow_true hs).symm, rfl⟩
        | false =>
          simp only at hf ⊢
          have ht : ERs σ n l l' := ⟨by have := h.1; simpa using this, fun j x hx => by
            have := h.2 (j + 1) x (by simpa using hx)
            simpa using this⟩
          rcases findNow_rel l l' (i + 1) r ht hf with ⟨h2, h3⟩ | ⟨j, x, x', h2, h3, h4, h5, h6, h7⟩
          · exact .inl ⟨h2, h3⟩
          · exact .inr ⟨j + 1, x, x', by rw [h2]; simp; omega, by simpa using h3, by simpa using h4, h5, h6, by rw [h7]; simp; omega⟩
def keyB (d : TypeDesc) (k : Value) : Bool := match d, k with
  | .int _, .int _ _ => true
  | .string, .string _ => true
  | .bool, .bool _ => true
  | _, _ => false
/-- entries of a map; nil: none -/
def mapAt (H : AH) (m : Value) : Option (List MapEntry) := match m with
  | .map none => some []
  | .map (some r) => match H.get r with
    | some (.map es _) => some es
    | _ => none
  | _ => none
def alookup (X : Tab) (H : AH) (t : TypeId) (m k : Value) (ok : Bool) : Option Value := do
  let d ← X.und t
  match d with
  | .map kt et => do
    let kd ← X.und kt
    let es ← mapAt H m
    let it ← X.inf et
    let z ← it.zero
    let f ← Instr.findNow kd k es 0
    cond (keyB kd k && flatF 8 k && flatF 8 z) (match f with
      | some (_, v) => some (cond ok (.tuple #[v, .bool true]) v)
      | none => some (cond ok (.tuple #[z, .bool false]) z)) none
  | _ => none
theorem checkKey_run (hX : TabOk P X) {kt : TypeId} {kd : TypeDesc} {k : Value} (h : X.und kt = some kd) (hk : keyB kd k = true) (e : Bool) (w : World) : (Instr.checkKey e 10000 kt k).run P w = .ok () w := by
  rw [show (10000 : Nat) = 9999 + 1 from rfl]
  unfold Instr.checkKey
  rw [Sem.run_bind, run_underlying (hX.und kt kd h)]
  simp only [Result.andThen_ok]
  cases kd <;> cases k <;> simp_all [keyB]
theorem flat_same {σ : Ren} {n : Ids} {v v' : Value} (h : VR σ n v v') (hf : flatF 8 v = true) : v' = v := VR.flat_eq 8 v v' h hf
theorem lookup_sound (hX : TabOk P X) (h : Rep σ S H W B) {t : TypeId} {m m' k k' r : Value} {ok : Bool} (hm : VR σ S m m') (hk : VR σ S k k') (ha : alookup X H t m k ok = some r) : Shows P σ S H W B (Instr.lookup t m' k' ok) r H := by
  unfold alookup at ha
  simp only [Option.bind_eq_bind, Option.bind_eq_some_iff] at ha
  obtain ⟨d, h1, h2⟩ := ha
  split at h2
  case h_2 => cases h2
  rename_i kt et
  simp only [Option.bind_eq_some_iff] at h2
  obtain ⟨kd, h3, es, h4, it, h5, z, h6, f, h7, h8⟩ := h2
  cases hc : (keyB kd k && flatF 8 k && flatF 8 z) with
  | false => rw [hc] at h8; cases h8
  | true =>
    rw [hc] at h8
    simp only [cond_true] at h8
    simp only [Bool.and_eq_true] at hc
    obtain ⟨⟨c1, c2⟩, c3⟩ := hc
    have hkk := flat_same hk c2
    subst hkk
    have e1 := hX.und t _ h1
    have e2 := hX.inf et it h5
    have hes : ∃ es' : Array MapEntry, ERs σ S es es'.toList ∧ ((m' = .map none ∧ es' = #[]) ∨ ∃ r' clock, m' = .map (some r') ∧ W.heap[r']? = some (.map es' clock)) := by
      unfold mapAt at h4
      split at h4
      · injection h4 with h4
        subst h4
        cases hm
        exact ⟨#[], ⟨rfl, fun j e he => by simp at he⟩, .inl ⟨rfl, rfl⟩⟩
      · split at h4
        · rename_i b es2 clock hg
          injection h4 with h4
          subst h4
          cases hm with
          | map _ b' hb hi =>
            obtain ⟨_, i, hs, ⟨es', g1, g2, g3⟩, _⟩ := h.live _ _ hg
            rw [hi i hs]
            exact ⟨es', ⟨by simpa using g2, fun j e he => by obtain ⟨e', a, b⟩ := g3 j e he; exact ⟨e', by simpa using a, b⟩⟩, .inr ⟨_, _, rfl, g1⟩⟩
        · cases h4
      · cases h4
    obtain ⟨es', hrel, hm2⟩ := hes
    have hz : (zeroValue et).run P W = .ok z W := by simp [zeroValue, typeInfo, e2, h6]
    have hfind : ∃ f', Instr.findNow kd k' es'.toList 0 = some f' ∧ ((f = none ∧ f' = none) ∨ ∃ j v v', f = some (j, v) ∧ f' = some (j, v') ∧ VR σ S v v') := by
      rcases findNow_rel es es'.toList 0 f hrel h7 with ⟨g1, g2⟩ | ⟨j, e, e', g1, _, _, g4, _, g6⟩
      · exact ⟨none, g2, .inl ⟨g1, rfl⟩⟩
      · exact ⟨_, g6, .inr ⟨_, _, _, g1, rfl, g4.2.2.2⟩⟩
    obtain ⟨f', hf1, hf2⟩ := hfind
    have hfk := run_findKey (P := P) (w := W) (hX.und kt kd h3) hf1
    have hck := fun e => checkKey_run (P := P) hX h3 c1 e W
    have hall : ∀ (rv : Value × Bool), (do
        let (v, ok') ← match f' with
          | some (_, v) => pure (v, true)
          | none => pure (← zeroValue et, false)
        pure (if ok then .tuple #[v, .bool ok'] else v) : Sem Value).run P W = .ok (if ok then .tuple #[rv.1, .bool rv.2] else rv.1) W →
        (Instr.lookup t m' k' ok).run P W = .ok (if ok then .tuple #[rv.1, .bool rv.2] else rv.1) W := by
      intro rv hrv
      unfold Instr.lookup
      rw [Sem.run_bind, run_underlying e1]
      simp only [Result.andThen_ok]
      rcases hm2 with ⟨rfl, rfl⟩ | ⟨r', clock, rfl, hb⟩
      · simp only [Sem.run_bind, Sem.run_pure, Result.andThen_ok, hck, hfk] at hrv ⊢
        exact hrv
      · simp only [Sem.run_bind, MapKept.run_getObj_map hb, Sem.run_pure, Result.andThen_ok, hck, hfk] at hrv ⊢
        exact hrv
    rcases hf2 with ⟨rfl, rfl⟩ | ⟨j, v, v', rfl, rfl, hv⟩
    · simp only at h8
      injection h8 with h8
      subst h8
      refine Shows.pure_ h (hall (z, false) (by simp [hz])) ?_
      cases ok
      · exact VR.flat 8 z c3
      · exact .tuple _ _ (.cons _ _ _ _ (VR.flat 8 z c3) (.cons _ _ _ _ (.bool _) .nil))
    · simp only at h8
      injection h8 with h8
      subst h8
      refine Shows.pure_ h (hall (v', true) (by simp)) ?_
      cases ok
      · exact hv
      · exact .tuple _ _ (.cons _ _ _ _ hv (.cons _ _ _ _ (.bool _) .nil))
theorem keyStays_run {kd : TypeDesc} {k : Value} (hk : keyB kd k = true) (w : World) : (Instr.keyThatStays k k).run P w = .ok k w := by
  have : Instr.sameBits 10000 k k = true := by
    cases kd <;> cases k <;> simp_all [keyB, Instr.sameBits, bytes_beq]
  simp [Instr.keyThatStays, this]
/-- entries with one changed, or one more -/
def updated (es : List MapEntry) (clock : Nat) (k v : Value) : Option (Nat × Value) → List MapEntry × Nat
  | some (i, _) => (es.modify i fun e => { e with key := k, val := v }, clock)
  | none => (es ++ [{ key := k, val := v, born := clock }], clock + 1)
def amapUpdate (X : Tab) (H : AH) (t : TypeId) (m k v : Value) : Option AH := do
  let d ← X.und t
  match d, m with
  | .map kt _, .map (some r) => do
    let kd ← X.und kt
    match H.get r with
    | some (.map es clock) => do
      let f ← Instr.findNow kd k es 0
      cond (keyB kd k && flatF 8 k && Nat.blt r 16777215) (some (H.put r (.map (updated es clock k v f).1 (updated es clock k v f).2))) none
    | _ => none
  | _, _ => none
theorem put_map (h : Rep σ S H W B) {r : Nat} {i : Inf} {es es2 : List MapEntry} {es2' : Array MapEntry} {clock clock2 : Nat} {ob : Obj} (hg : H.get r = some (.map es clock)) (hs : σ r = some i) (hr : r < 16777215) (hob : W.heap[i.blk]? = some ob) (hrel : ERs σ S es2 es2'.toList) :
    Rep σ S (H.put r (.map es2 clock2)) { W with heap := W.heap.setIfInBounds i.blk (.map es2' clock2) } B ∧ Evo σ S W σ S { W with heap := W.heap.setIfInBounds i.blk (.map es2' clock2) } := by
  have hh := heap_set (o' := .map es2' clock2) hob
  exact h.put_ (W' := { W with heap := W.heap.setIfInBounds i.blk (.map es2' clock2) }) hg hs hr (by simp) hh.2 rfl rfl rfl ⟨es2', hh.1, by simpa using hrel.1, fun j e he => by obtain ⟨e', a, b⟩ := hrel.2 j e he; exact ⟨e', by simpa using a, b⟩⟩
theorem mapUpdate_sound (hX : TabOk P X) (h : Rep σ S H W B) {t : TypeId} {m m' k k' v v' : Value} {H' : AH} (hm : VR σ S m m') (hk : VR σ S k k') (hv : VR σ S v v') (ha : amapUpdate X H t m k v = some H') :
    ShowsU P σ S H W B (Instr.mapUpdate t m' k' v') H' := by
  unfold amapUpdate at ha
  simp only [Option.bind_eq_bind, Option.bind_eq_some_iff] at ha
  obtain ⟨d, h1, h2⟩ := ha
  split at h2
  case h_2 => cases h2
  rename_i kt et r
  simp only [Option.bind_eq_some_iff] at h2
  obtain ⟨kd, h3, h4⟩ := h2
  split at h4
  case h_2 => cases h4
  rename_i es clock hg
  simp only [Option.bind_eq_some_iff] at h4
  obtain ⟨f, h5, h6⟩ := h4
  cases hc : (keyB kd k && flatF 8 k && Nat.blt r 16777215) with
  | false => rw [hc] at h6; cases h6
  | true =>
    rw [hc] at h6
    injection h6 with h6
    subst h6
    simp only [Bool.and_eq_true, Nat.blt_eq] at hc
    obtain ⟨⟨c1, c2⟩, c3⟩ := hc
    have hkk := flat_same hk c2
    subst hkk
    cases hm with
    | map _ b' hb hi =>
      obtain ⟨_, i, hs, ⟨es', g1, g2, g3⟩, _⟩ := h.live _ _ hg
      rw [hi i hs]
      have e1 := hX.und t _ h1
      have hrel : ERs σ S es es'.toList := ⟨by simpa using g2, fun j e he => by obtain ⟨e', a, b⟩ := g3 j e he; exact ⟨e', by simpa using a, b⟩⟩
      have hck := checkKey_run (P := P) hX h3 c1 false W
      rcases findNow_rel es es'.toList 0 f hrel h5 with ⟨rfl, q2⟩ | ⟨j, e, e', rfl, q3, q4, q5, q6, q7⟩
      · have hfk := run_findKey (P := P) (w := W) (hX.und kt kd h3) q2
        have hp := put_map (es2 := es ++ [{ key := k', val := v, born := clock }]) (es2' := es'.push { key := k', val := v', born := clock }) (clock2 := clock + 1) h hg hs c3 g1 ⟨by simp [hrel.1], fun j e he => by
          rcases Nat.lt_or_ge j es.length with hj | hj
          · rw [List.getElem?_append_left hj] at he
            obtain ⟨e', a, b⟩ := hrel.2 j e he
            refine ⟨e', ?_, b⟩
            rw [Array.toList_push, List.getElem?_append_left (by rw [← hrel.1]; exact hj)]
            exact a
          · rw [List.getElem?_append_right hj] at he
            have hj0 : j - es.length = 0 := by
              have := (List.getElem?_eq_some_iff.1 he).1
              simpa using this
            rw [hj0] at he
            simp at he
            subst he
            refine ⟨{ key := k', val := v', born := clock }, ?_, rfl, c2, rfl, hv⟩
            rw [Array.toList_push, List.getElem?_append_right (by rw [← hrel.1]; exact hj), ← hrel.1, hj0]
            rfl⟩
        exact ⟨σ, S, _, by simp [Instr.mapUpdate, run_underlying e1, MapKept.run_getObj_map g1, hck, hfk, run_setObj_map _ g1], hp.1, hp.2, Taken.refl _ _⟩
      · have hfk := run_findKey (P := P) (w := W) (hX.und kt kd h3) q7
        simp only [Nat.zero_add] at hfk
        have q4' : es'[j]? = some e' := by rw [← Array.getElem?_toList]; exact q4
        have hkey : e'.key = k' := by rw [q5.1, q6]
        have hst := keyStays_run (P := P) c1 W
        have hp := put_map (es2 := es.modify j fun e => { e with key := k', val := v }) (es2' := es'.modify j fun e => { e with key := k', val := v' }) (clock2 := clock) h hg hs c3 g1 ⟨by simp [hrel.1], fun j2 e2 he => by
          rw [List.getElem?_modify] at he
          rw [Array.toList_modify, List.getElem?_modify]
          cases hx : es[j2]? with
          | none => rw [hx] at he; simp at he
          | some x =>
            obtain ⟨x', a, b⟩ := hrel.2 j2 x hx
            rw [hx] at he
            rw [a]
            simp only [Option.map_eq_map, Option.map_some, Option.some.injEq] at he ⊢
            refine ⟨_, rfl, ?_⟩
            split at he
            · rename_i e9
              rw [if_pos e9]
              subst he
              exact ⟨rfl, c2, b.2.2.1, hv⟩
            · rename_i e9
              rw [if_neg e9]
              subst he
              exact b⟩
        refine ⟨σ, S, { W with heap := W.heap.setIfInBounds i.blk (.map (es'.modify j fun e => { e with key := k', val := v' }) clock) }, ?_, ?_, ?_, Taken.refl _ _⟩
        · simp [Instr.mapUpdate, run_underlying e1, MapKept.run_getObj_map g1, hck, hfk, q4', hkey, hst, run_setObj_map _ g1]
        · simpa [updated] using hp.1
        · exact hp.2
def amakeMap (H : AH) : Option (Value × AH) := do
  let (id, H') ← H.new (.map [] 0)
  some (.map (some id), H')
theorem makeMap_sound (h : Rep σ S H W B) (hfree : ¬ S H.next) (hB : B ≤ W.heap.size) {t : TypeId} {r : Value} {H' : AH} (ha : amakeMap H = some (r, H')) : Shows P σ S H W B (Instr.makeMap t none) r H' := by
  unfold amakeMap at ha
  simp only [Option.bind_eq_bind, Option.bind_eq_some_iff] at ha
  obtain ⟨⟨id, H1⟩, h1, h2⟩ := ha
  injection h2 with h2
  injection h2 with h2 h3
  subst h2 h3
  obtain ⟨σ', k1, k2, k3, rfl, k6⟩ := h.new_ hfree h1 (ob := .map #[] 0) (k := 0) hB fun σ' hσ => ⟨#[], Go.heap_alloc_new W _, rfl, fun j e he => by simp at he⟩
  have k5 : Taken S H.next (more S H.next) H1.next := by rw [k6]; exact taken_more _ _
  exact ⟨σ', _, W.alloc (.map #[] 0), .map (some W.heap.size), rfl, k2, k3, .map _ _ (.inr rfl) fun i hi => (by rw [k1] at hi; injection hi with hi; subst hi; rfl), k5⟩
def arange (X : Tab) (H : AH) (t : TypeId) (x : Value) : Option (Value × AH) := do
  let d ← X.und t
  let o ← (match d, x with
    | .string, .string s => some (.sit s 0)
    | .map _ _, .map none => some (.mit none 0 [] 0)
    | .map _ _, .map (some m) => match H.get m with
      | some (.map _ clock) => some (.mit (some m) clock [] clock)
      | _ => none
    | _, _ => none)
  let (id, H') ← H.new o
  some (.pointer (some ⟨id, 0, none⟩), H')
theorem range_sound (hX : TabOk P X) (h : Rep σ S H W B) (hfree : ¬ S H.next) (hB : B ≤ W.heap.size) {t : TypeId} {x x' r : Value} {H' : AH} (hx : VR σ S x x') (ha : arange X H t x = some (r, H')) : Shows P σ S H W B (Instr.range t x') r H' := by
  unfold arange at ha
  simp only [Option.bind_eq_bind, Option.bind_eq_some_iff] at ha
  obtain ⟨d, h1, o, h2, ⟨id, H1⟩, h3, h4⟩ := ha
  injection h4 with h4
  injection h4 with h4 h5
  subst h4 h5
  have e1 := hX.und t _ h1
  have key : ∀ (ob : Obj), (Instr.range t x').run P W = .ok (.pointer (some ⟨W.heap.size, 0, none⟩)) (W.alloc ob) → (∀ σ', Ext σ S σ' (more S H.next) → ORel σ' (more S H.next) ((W.alloc ob).drewN 0) ⟨W.heap.size, 0, none⟩ o) →
      Shows P σ S H W B (Instr.range t x') (.pointer (some ⟨id, 0, none⟩)) H1 := by
    intro ob hrun ho
    obtain ⟨σ', k1, k2, k3, rfl, k6⟩ := h.new_ hfree h3 (ob := ob) (k := 0) hB ho
    have k5 : Taken S H.next (more S H.next) H1.next := by rw [k6]; exact taken_more _ _
    exact ⟨σ', _, W.alloc ob, _, hrun, k2, k3, .ptr _ _ _ (.inr rfl) fun i hi => (by rw [k1] at hi; injection hi with hi; subst hi; rfl), k5⟩
  split at h2
  · rename_i s
    injection h2 with h2
    subst h2
    cases hx
    refine key (.stringIter s 0) ?_ fun σ' hσ => ⟨Go.heap_alloc_new W _, rfl⟩
    simp [Instr.range, run_underlying e1]
  · injection h2 with h2
    subst h2
    cases hx
    refine key (.mapIter none 0 #[] 0) ?_ fun σ' hσ => ⟨none, Go.heap_alloc_new W _, .mapNil, rfl⟩
    simp [Instr.range, run_underlying e1]
  · rename_i m
    split at h2
    · rename_i es clock hg
      injection h2 with h2
      subst h2
      cases hx with
      | map _ b' hb hi =>
        obtain ⟨_, i, hs, ⟨es', g1, _⟩, _⟩ := h.live _ _ hg
        refine key (.mapIter (some b') clock #[] clock) ?_ fun σ' hσ => ⟨some b', Go.heap_alloc_new W _, .map _ _ (.inl hb) (fun i2 hi2 => hi i2 (hσ.old _ _ hb hi2)), rfl⟩
        rw [hi i hs]
        simp [Instr.range, run_underlying e1, MapKept.run_getObj_map g1]
    · cases h2
  · cases h2
end
end
end Go.Proofs.YtnckhmfajjcgpaaGreatDoor.Ev
namespace Go.Proofs.YtnckhmfajjcgpaaGreatDoor.Ev
noncomputable section
open Go.MapKept
section
variable {P : Program} {X : Tab} {σ : Ren} {S : Ids} {H : AH} {W : World} {B : Nat}
/-- the numbers of byte cells -/
def bytesOf : List Value → Option (List Int)
  | [] => some []
  | v :: l => match v with
    | .int .u8 n => (bytesOf l).bind fun r => some (n :: r)
    | _ => none
theorem bytesOf_vr {σ : Ren} {n : Ids} : ∀ (l l' : List Value) (ns : List Int), bytesOf l = some ns → VRs σ n l l' → l' = ns.map (Value.int .u8)
  | [], _, ns, h, hv => by cases hv; simp only [bytesOf] at h; injection h with h; subst h; rfl
  | v :: l, _, ns, h, hv => by
    cases hv with
    | cons _ v' _ l' hv ht =>
      unfold bytesOf at h
      split at h
      · rw [Option.bind_eq_some_iff] at h
        obtain ⟨r, h1, h2⟩ := h
        injection h2 with h2
        subst h2
        cases hv
        rw [bytesOf_vr l l' r h1 ht]
        rfl
      · cases h
def pushAll (ns : List Int) : ByteArray := ns.foldl (fun r n => r.push (UInt8.ofNat n.toNat)) ByteArray.empty
def aconvert (X : Tab) (H : AH) (src dst : TypeId) (v : Value) : Option (Value × AH) := do
  let s ← X.und src
  let d ← X.und dst
  match s, d, v with
  | .slice e, .string, .slice (some ⟨b, off, none⟩) len _ => do
    let ed ← X.und e
    let (cs, _, _) ← cellsAt H b
    match ed with
    | .int .u8 => cond (Nat.beq ((cs.drop off).take len).length len) (do
      let ns ← bytesOf ((cs.drop off).take len)
      some (.string (pushAll ns), H)) none
    | _ => none
  | .string, .slice e, .string s => do
    let ed ← X.und e
    match ed with
    | .int .u8 => do
      let (id, H') ← H.new (.cells (byteCells s) e (some 1))
      cond (Nat.ble s.size 1048576) (some (.slice (some ⟨id, 0, none⟩) s.size s.size, H')) none
    | _ => none
  | _, _, _ => none
theorem convert_sound (hX : TabOk P X) (h : Rep σ S H W B) (hfree : ¬ S H.next) (hB : B ≤ W.heap.size) {src dst : TypeId} {v v' r : Value} {H' : AH} (hv : VR σ S v v') (ha : aconvert X H src dst v = some (r, H')) : Shows P σ S H W B (convert src dst v') r H' := by
  unfold aconvert at ha
  simp only [Option.bind_eq_bind, Option.bind_eq_some_iff] at ha
  obtain ⟨s, h1, d, h2, h3⟩ := ha
  have e1 := hX.und src s h1
  have e2 := hX.und dst d h2
  split at h3
  · rename_i e b off len cap
    simp only [Option.bind_eq_some_iff] at h3
    obtain ⟨ed, h4, ⟨cs, el, g⟩, h5, h6⟩ := h3
    have e3 := hX.und e ed h4
    split at h6
    · cases hl : Nat.beq ((cs.drop off).take len).length len with
      | false => simp only [hl] at h6; cases h6
      | true =>
        simp only [hl, cond_true, Option.bind_eq_some_iff] at h6
        obtain ⟨ns, h7, h8⟩ := h6
        injection h8 with h8
        injection h8 with h8 h9
        subst h8 h9
        cases hv with
        | slice _ _ _ _ cap' a' hb hle hm hi =>
          obtain ⟨i, c', lo, hi', hs, hh, hcs, _⟩ := h.cells_ h5
          obtain ⟨rfl, _⟩ := hi i hs
          obtain ⟨rs, k1, k2, k3⟩ := range_real hcs (by simpa using hl)
          have hrs := bytesOf_vr _ _ ns h7 k2
          have hload : (loadCells (⟨i.blk, i.base + off, none⟩ : Addr) len).run P W = .ok (ns.map (Value.int .u8)).toArray W := by
            have := run_loadCells_list (P := P) W ⟨i.blk, i.base + off, none⟩ rs (fun j u hu => by rw [Addr.add_mid, cell_of hh]; exact k3 j u hu)
            rw [k1, hrs] at this
            exact this
          have hbs := run_bytesToString (P := P) W ⟨i.blk, i.base + off, none⟩ len cap' ns hload
          refine Shows.pure_ h (r' := .string (pushAll ns)) ?_ (.string _)
          simp [convert, run_underlying e1, run_underlying e2, run_underlying e3, hbs, pushAll]
    · cases h6
  · rename_i e s
    simp only [Option.bind_eq_some_iff] at h3
    obtain ⟨ed, h4, h5⟩ := h3
    have e3 := hX.und e ed h4
    split at h5
    · simp only [Option.bind_eq_some_iff] at h5
      obtain ⟨⟨id, H1⟩, h6, h7⟩ := h5
      cases hc : Nat.ble s.size 1048576 with
      | false => rw [hc] at h7; cases h7
      | true =>
        rw [hc] at h7
        injection h7 with h7
        injection h7 with h7 h8
        subst h7 h8
        have hsz : s.size ≤ 1048576 := by simpa using hc
        cases hv
        obtain ⟨cap, hcap⟩ : ∃ cap, grownCap W s.size 0 e = cap := ⟨_, rfl⟩
        have hg1 := grownCap_ge W s.size 0 e
        have hg2 := grownCap_le_maxLen W s.size 0 e (by simp [maxLen]; omega)
        rw [hcap] at hg1 hg2
        obtain ⟨c', hc'⟩ : ∃ c' : Array Value, (s.data.map fun b => Value.int .u8 b.toNat) ++ Array.replicate (cap - s.size) (.int .u8 0) = c' := ⟨_, rfl⟩
        have hlen : c'.size = cap := by
          rw [← hc']
          have : s.data.size = s.size := rfl
          simp [this]
          omega
        have hrun : (convert src dst (.string s)).run P W = .ok (.slice (some ⟨W.heap.size, 0, none⟩) s.size cap) ((W.drew.alloc (.cells c' e)).freeze ⟨W.heap.size, c'.size, none⟩ 1) := by
          have hq : (Question.appendCap s.size 0 e).cut (W.tape W.drawn (.appendCap s.size 0 e)) = cap := hcap
          have hsh : (W.drew.alloc (.cells c' e)).shape? W.heap.size = some (e, c'.size) := by
            have := Go.heap_alloc_new W.drew (.cells c' e)
            unfold World.shape?
            rw [show W.heap.size = W.drew.heap.size from rfl, this]
          simp only [convert, Sem.run_bind, run_underlying e1, run_underlying e2, run_underlying e3, Result.andThen_ok, Conv.stringToBytes, choose, Sem.run, Question.forced, Bool.false_eq_true, if_false, hq, hc', newRow, newObj, markStringish, shape, freeze]
          show Result.andThen (Sem.run P _ _) _ = _
          rw [show ({ heap := W.heap.push (Obj.cells c' e), tape := W.tape, drawn := W.drawn + 1, os := W.os, output := W.output } : World) = W.drew.alloc (.cells c' e) from rfl] at *
          simp only [Sem.run_pure, Result.andThen_ok, hsh]
          rfl
        have hfz : ((W.drew.alloc (.cells c' e)).freeze ⟨W.heap.size, c'.size, none⟩ 1).heap[W.heap.size]? = some (.cells c' e (c'.size, c'.size + 1)) := by
          have h9 := Go.heap_alloc_new W.drew (.cells c' e)
          rw [show W.drew.heap.size = W.heap.size from rfl] at h9
          unfold World.freeze
          rw [if_neg (by omega)]
          rw [Array.getElem?_modify, if_pos rfl, h9]
          rfl
        have hoth : ∀ k, k ≠ W.heap.size → k < W.heap.size → ((W.drew.alloc (.cells c' e)).freeze ⟨W.heap.size, c'.size, none⟩ 1).heap[k]? = W.heap[k]? := by
          intro k hk hlt
          unfold World.freeze
          rw [if_neg (by omega)]
          rw [Array.getElem?_modify, if_neg (Ne.symm hk)]
          exact Go.RowKit.Below.heap_alloc W.drew _ k hlt
        obtain ⟨σ', k1, k2, k3, k4, k6⟩ := h.turn hfree none ⟨W.heap.size, 0, some (1, cap)⟩ (o := .cells (byteCells s) e (some 1)) (W' := (W.drew.alloc (.cells c' e)).freeze ⟨W.heap.size, c'.size, none⟩ 1) (by simpa using h6) (fun b e => (by cases e)) (.inl (Nat.le_refl _)) hB hoth
          (by unfold World.freeze; rw [if_neg (by omega)]; simp) (by unfold World.freeze; rw [if_neg (by omega)]; rfl) (by unfold World.freeze; rw [if_neg (by omega)]; rfl) (by unfold World.freeze; rw [if_neg (by omega)]; rfl)
          fun σ' hσ => ⟨c', c'.size, c'.size + 1, hfz, fun j u hu => by
            refine ⟨u, ?_, ?_⟩
            · have hj := (List.getElem?_eq_some_iff.1 hu).1
              rw [byteCells_length] at hj
              rw [← hc', Nat.zero_add, Array.getElem?_append_left (by have : s.data.size = s.size := rfl; simp [this]; exact hj)]
              rw [← Array.getElem?_toList]
              simpa [byteCells] using hu
            · obtain ⟨hj, he⟩ := List.getElem?_eq_some_iff.1 hu
              rw [← he]
              simp only [byteCells, List.getElem_map]
              exact .int _ _, fun j _ => by omega, rfl, by rw [byteCells_length, hlen]; simpa using hg1, fun e => (by cases e), fun s0 t0 hst => by injection hst with hst; injection hst with h9 h10; rw [hlen, h10]⟩
        have k4' : id = H.next := k4
        subst k4'
        have k7 : Taken S H.next (more S H.next) H1.next := by
          have : H1.next = H.next + 1 := k6
          rw [this]; exact taken_more _ _
        exact ⟨σ', _, _, _, hrun, k2, k3, .slice _ _ _ _ _ _ (.inr rfl) hg1 hg2 fun i hi => (by rw [k1] at hi; injection hi with hi; subst hi; exact ⟨rfl, by simp [capOk]⟩), k7⟩
    · cases h5
  · cases h3
end
end
end Go.Proofs.YtnckhmfajjcgpaaGreatDoor.Ev
namespace Go.Proofs.YtnckhmfajjcgpaaGreatDoor.Ev
noncomputable section
open Go.MapKept
section
variable {P : Program} {X : Tab} {σ : Ren} {S : Ids} {H : AH} {W : World} {B : Nat}
theorem ERs.inv {n : Ids} {e e' : MapEntry} {l l' : List MapEntry} (h : ERs σ n (e :: l) (e' :: l')) : ERel σ n e e' ∧ ERs σ n l l' := by
  obtain ⟨e2, h1, h2⟩ := h.2 0 e rfl
  simp at h1
  subst h1
  exact ⟨h2, by have := h.1; simpa using this, fun j x hx => by have := h.2 (j + 1) x (by simpa using hx); simpa using this⟩
theorem ERs.cons {n : Ids} {e e' : MapEntry} {l l' : List MapEntry} (h : ERel σ n e e') (t : ERs σ n l l') : ERs σ n (e :: l) (e' :: l') := by
  refine ⟨by simp [t.1], fun j x hx => ?_⟩
  cases j with
  | zero => simp at hx; subst hx; exact ⟨e', rfl, h⟩
  | succ j => simpa using t.2 j x (by simpa using hx)
theorem ERs.filter {n : Ids} (p : Nat → Bool) : ∀ (l l' : List MapEntry), ERs σ n l l' → ERs σ n (l.filter fun e => p e.born) (l'.filter fun e => p e.born)
  | [], l', h => by
    have : l' = [] := List.eq_nil_of_length_eq_zero h.1.symm
    subst this
    exact h
  | e :: l, l', h => by
    cases l' with
    | nil => have := h.1; simp at this
    | cons e' l' =>
      obtain ⟨h1, h2⟩ := h.inv
      have ih := ERs.filter p l l' h2
      have hb : e'.born = e.born := h1.2.2.1
      simp only [List.filter_cons, hb]
      split
      · exact ih.cons h1
      · exact ih
theorem ERs.all {n : Ids} (p : Nat → Bool) : ∀ (l l' : List MapEntry), ERs σ n l l' → (l'.all fun e => p e.born) = (l.all fun e => p e.born)
  | [], l', h => by
    have : l' = [] := List.eq_nil_of_length_eq_zero h.1.symm
    subst this
    rfl
  | e :: l, l', h => by
    cases l' with
    | nil => have := h.1; simp at this
    | cons e' l' =>
      obtain ⟨h1, h2⟩ := h.inv
      have hb : e'.born = e.born := h1.2.2.1
      simp only [List.all_cons, hb, ERs.all p l l' h2]
theorem ERs.find {n : Ids} (p : Nat → Bool) : ∀ (l l' : List MapEntry) (e : MapEntry), ERs σ n l l' → (l.find? fun e => p e.born) = some e → ∃ e', (l'.find? fun e => p e.born) = some e' ∧ ERel σ n e e'
  | [], l', e, h, hf => by simp at hf
  | x :: l, l', e, h, hf => by
    cases l' with
    | nil => have := h.1; simp at this
    | cons x' l' =>
      obtain ⟨h1, h2⟩ := h.inv
      have hb : x'.born = x.born := h1.2.2.1
      simp only [List.find?_cons, hb] at hf ⊢
      split at hf
      · rename_i hp
        injection hf with hf
        subst hf
        exact ⟨x', by simp, h1⟩
      · rename_i hp
        exact ERs.find p l l' e h2 hf
def anextMap (H : AH) (b m since : Nat) (seen : List Nat) (last : Nat) : Option (Value × AH) :=
  match H.get m with
  | some (.map es clock) =>
    cond (!seen.isEmpty && !es.isEmpty && es.all fun e => decide (e.born ≥ last)) none
      (match ((es.filter fun e => !seen.contains e.born).filter fun e => decide (e.born < since)), ((es.filter fun e => !seen.contains e.born).filter fun e => decide (e.born ≥ since)) with
        | [], [] => some (.tuple #[.bool false], H)
        | [e], [] => cond (Nat.blt b 16777215) (some (.tuple #[.bool true, e.key, e.val], H.put b (.mit (some m) since (seen ++ [e.born]) clock))) none
        | _, _ => none)
  | _ => none
def anext (H : AH) (it : Value) (isS : Bool) : Option (Value × AH) := do
  let (b, off) ← addrOf it
  cond (Nat.beq off 0) (match H.get b, isS with
    | some (.sit s pos), true => cond (Nat.blt pos s.size && Nat.blt b 16777215) (some (.tuple #[.bool true, .int .i64 pos, .int .i32 (Utf8.decode s pos).1], H.put b (.sit s (pos + (Utf8.decode s pos).2))))
      (cond (Nat.blt pos s.size) none (some (.tuple #[.bool false], H)))
    | some (.mit none _ _ _), false => some (.tuple #[.bool false], H)
    | some (.mit (some m) since seen last), false => anextMap H b m since seen last
    | _, _ => none) none
theorem put_obj (h : Rep σ S H W B) {b : Nat} {i : Inf} {o o2 : AObj} {ob ob2 : Obj} (hg : H.get b = some o) (hs : σ b = some i) (hb : b < 16777215) (hob : W.heap[i.blk]? = some ob)
    (ho : ORel σ S { W with heap := W.heap.setIfInBounds i.blk ob2 } i o2) : Rep σ S (H.put b o2) { W with heap := W.heap.setIfInBounds i.blk ob2 } B ∧ Evo σ S W σ S { W with heap := W.heap.setIfInBounds i.blk ob2 } :=
  h.put_ (W' := { W with heap := W.heap.setIfInBounds i.blk ob2 }) hg hs hb (by simp) (heap_set (o' := ob2) hob).2 rfl rfl rfl ho
theorem list_arr {a : Array MapEntry} {l : List MapEntry} (h : a.toList = l) : a = l.toArray := by cases a; simpa using h
theorem next_sound (h : Rep σ S H W B) {it it' r : Value} {isS : Bool} {ty : TypeId} {H' : AH} (hi : VR σ S it it') (ha : anext H it isS = some (r, H')) : Shows P σ S H W B (Instr.next it' isS ty) r H' := by
  unfold anext at ha
  simp only [Option.bind_eq_bind, Option.bind_eq_some_iff] at ha
  obtain ⟨⟨b, off⟩, h1, h2⟩ := ha
  simp only at h2
  cases h0 : Nat.beq off 0 with
  | false => rw [h0] at h2; cases h2
  | true =>
    rw [h0] at h2
    have hoff : off = 0 := by simpa using h0
    subst hoff
    simp only [cond_true] at h2
    obtain ⟨a', rfl, hb, hi2⟩ := addrOf_vr h1 hi
    split at h2
    · rename_i s pos hg
      obtain ⟨_, i, hs, ⟨g1, g2⟩, _⟩ := h.live _ _ hg
      have ha' := hi2 i hs
      rw [g2] at ha'
      subst ha'
      cases hp : Nat.blt pos s.size with
      | true =>
        have hp' : pos < s.size := by simpa using hp
        rw [hp] at h2
        cases hbb : Nat.blt b 16777215 with
        | false => rw [hbb] at h2; cases h2
        | true =>
          rw [hbb] at h2
          simp only [Bool.and_self, cond_true] at h2
          injection h2 with h2
          injection h2 with h2 h3
          subst h2 h3
          have hput := put_obj (o2 := .sit s (pos + (Utf8.decode s pos).2)) (ob2 := .stringIter s (pos + (Utf8.decode s pos).2)) h hg hs (by simpa using hbb) g1 ⟨(heap_set g1).1, g2⟩
          refine ⟨σ, S, _, .tuple #[.bool true, .int .i64 pos, .int .i32 (Utf8.decode s pos).1], ?_, hput.1, hput.2, VR.flat 8 _ rfl, Taken.refl _ _⟩
          simp only [Instr.next, getObj, setObj, Sem.run_bind, Sem.run, g1, Result.andThen, hp', if_true]
          rfl
      | false =>
        rw [hp] at h2
        simp only [Bool.false_and, cond_false] at h2
        injection h2 with h2
        injection h2 with h2 h3
        subst h2 h3
        have hp' : ¬ pos < s.size := by intro e; have : Nat.blt pos s.size = true := by simpa using e
                                        rw [this] at hp; cases hp
        refine Shows.pure_ h (r' := .tuple #[.bool false]) ?_ (VR.flat 8 _ rfl)
        simp only [Instr.next, getObj, Sem.run_bind, Sem.run, g1, Result.andThen, hp', if_false]
        rfl
    · rename_i x y z hg
      obtain ⟨_, i, hs, ⟨m', g1, g2, g3⟩, _⟩ := h.live _ _ hg
      have ha' := hi2 i hs
      rw [g3] at ha'
      subst ha'
      cases g2
      injection h2 with h2
      injection h2 with h2 h3
      subst h2 h3
      refine Shows.pure_ h (r' := .tuple #[.bool false]) ?_ (VR.flat 8 _ rfl)
      simp only [Instr.next, getObj, Sem.run_bind, Sem.run, g1, Result.andThen]
      rfl
    · rename_i m since seen last hg
      obtain ⟨_, i, hs, ⟨m', g1, g2, g3⟩, _⟩ := h.live _ _ hg
      have ha' := hi2 i hs
      rw [g3] at ha'
      subst ha'
      unfold anextMap at h2
      split at h2
      case h_2 => cases h2
      rename_i es clock hgm
      obtain ⟨_, im, hsm, ⟨es', q1, q2, q3⟩, _⟩ := h.live _ _ hgm
      have hrel : ERs σ S es es'.toList := ⟨by simpa using q2, fun j e he => by obtain ⟨e', a, b⟩ := q3 j e he; exact ⟨e', by simpa using a, b⟩⟩
      cases g2 with
      | map _ mb hmb hmi =>
        have := hmi im hsm
        subst this
        cases htest : (!seen.isEmpty && !es.isEmpty && es.all fun e => decide (e.born ≥ last)) with
        | true => rw [htest] at h2; cases h2
        | false =>
          rw [htest] at h2
          simp only [cond_false] at h2
          have hemp : es'.isEmpty = es.isEmpty := by
            cases es with
            | nil => have : es' = #[] := Array.eq_empty_of_size_eq_zero q2.symm; subst this; rfl
            | cons x l =>
              have : 0 < es'.size := by rw [← q2]; simp
              simp [Array.isEmpty]
              intro e; rw [e] at this; simp at this
          have hall : (es'.all fun e => decide (e.born ≥ last)) = (es.all fun e => decide (e.born ≥ last)) := by
            rw [← Array.all_toList]
            exact ERs.all (fun k => decide (k ≥ last)) es es'.toList hrel
          have htest' : (!seen.toArray.isEmpty && !es'.isEmpty && es'.all fun e => decide (e.born ≥ last)) = false := by
            rw [hemp, hall]
            simpa using htest
          have hleft := ERs.filter (fun k => !seen.contains k) es es'.toList hrel
          have hold := ERs.filter (fun k => decide (k < since)) _ _ hleft
          have hnew := ERs.filter (fun k => decide (k ≥ since)) _ _ hleft
          have hf : ∀ q : MapEntry → Bool, ((es'.filter fun e => !seen.toArray.contains e.born).filter q).toList = ((es'.toList.filter fun e => !seen.contains e.born).filter q) := by
            intro q
            simp [Array.toList_filter]
          split at h2
          · rename_i ho hn
            injection h2 with h2
            injection h2 with h2 h3
            subst h2 h3
            rw [ho] at hold
            rw [hn] at hnew
            have ho' := list_arr ((hf (fun e => decide (e.born < since))).trans (List.eq_nil_of_length_eq_zero hold.1.symm))
            have hn' := list_arr ((hf (fun e => decide (e.born ≥ since))).trans (List.eq_nil_of_length_eq_zero hnew.1.symm))
            refine Shows.pure_ h (r' := .tuple #[.bool false]) ?_ (VR.flat 8 _ rfl)
            simp only [Instr.next, getObj, Sem.run_bind, Sem.run, g1, q1, Result.andThen, htest', Bool.false_eq_true, if_false, ho', hn', choose, Question.forced]
            rw [show ((if (#[] : Array MapEntry).isEmpty = true then #[none] else #[]) ++ Array.map some (#[] ++ #[])) = #[(none : Option MapEntry)] from by simp]
            rfl
          · rename_i e ho hn
            cases hbb : Nat.blt b 16777215 with
            | false => rw [hbb] at h2; cases h2
            | true =>
              rw [hbb] at h2
              simp only [cond_true] at h2
              injection h2 with h2
              injection h2 with h2 h3
              subst h2 h3
              rw [ho] at hold
              rw [hn] at hnew
              obtain ⟨e', he1, he2⟩ := hold.2 0 e rfl
              have hol : ((es'.toList.filter fun e => !seen.contains e.born).filter fun e => decide (e.born < since)) = [e'] := by
                cases hx : ((es'.toList.filter fun e => !seen.contains e.born).filter fun e => decide (e.born < since)) with
                | nil => rw [hx] at he1; simp at he1
                | cons y l =>
                  have h8 := hold.1
                  rw [hx] at he1 h8
                  simp at he1 h8
                  rw [he1, h8]
              have ho' := list_arr ((hf (fun e => decide (e.born < since))).trans hol)
              have hn' := list_arr ((hf (fun e => decide (e.born ≥ since))).trans (List.eq_nil_of_length_eq_zero hnew.1.symm))
              have hput := put_obj (o2 := .mit (some m) since (seen ++ [e.born]) clock) (ob2 := .mapIter (some im.blk) since (seen.toArray.push e'.born) clock) h hg hs (by simpa using hbb) g1
                ⟨some im.blk, by rw [(heap_set g1).1, he2.2.2.1]; simp, .map _ _ hmb hmi, g3⟩
              refine ⟨σ, S, _, .tuple #[.bool true, e'.key, e'.val], ?_, hput.1, hput.2, .tuple _ _ (.cons _ _ _ _ (.bool _) (.cons _ _ _ _ ?_ (.cons _ _ _ _ he2.2.2.2 .nil))), Taken.refl _ _⟩
              · simp only [Instr.next, getObj, setObj, Sem.run_bind, Sem.run, g1, q1, Result.andThen, htest', Bool.false_eq_true, if_false, ho', hn', choose, Question.forced]
                rw [show ((if (#[e'] : Array MapEntry).isEmpty = true then #[none] else #[]) ++ Array.map some (#[e'] ++ #[])) = #[some e'] from by simp]
                simp [Sem.run, g1]
              · rw [he2.1]
                exact VR.flat 8 _ he2.2.1
          · cases h2
    · cases h2
end
end
end Go.Proofs.YtnckhmfajjcgpaaGreatDoor.Ev
namespace Go.Proofs.YtnckhmfajjcgpaaGreatDoor.Ev
noncomputable section
open Go.MapKept
section
variable {P : Program} {X : Tab} {σ : Ren} {S : Ids} {H : AH} {W : World} {B : Nat}
def aentry (H : AH) (it : Value) : Option Value := do
  let (b, off) ← addrOf it
  cond (Nat.beq off 0) (match H.get b with
    | some (.mit (some m) _ seen stepped) => match H.get m with
      | some (.map es clock) => do
        let stamp ← seen.getLast?
        let e ← es.find? fun e => e.born == stamp
        cond (Nat.beq clock stepped) (some (.tuple #[e.key, e.val])) none
      | _ => none
    | _ => none) none
theorem entry_sound (h : Rep σ S H W B) {it it' r : Value} (hi : VR σ S it it') (ha : aentry H it = some r) : Shows P σ S H W B (Instr.entry it') r H := by
  unfold aentry at ha
  simp only [Option.bind_eq_bind, Option.bind_eq_some_iff] at ha
  obtain ⟨⟨b, off⟩, h1, h2⟩ := ha
  simp only at h2
  cases h0 : Nat.beq off 0 with
  | false => rw [h0] at h2; cases h2
  | true =>
    rw [h0] at h2
    have hoff : off = 0 := by simpa using h0
    subst hoff
    simp only [cond_true] at h2
    obtain ⟨a', rfl, hb, hi2⟩ := addrOf_vr h1 hi
    split at h2
    case h_2 => cases h2
    rename_i m since seen stepped hg
    split at h2
    case h_2 => cases h2
    rename_i es clock hgm
    simp only [Option.bind_eq_some_iff] at h2
    obtain ⟨stamp, h3, e, h4, h5⟩ := h2
    cases hc : Nat.beq clock stepped with
    | false => rw [hc] at h5; cases h5
    | true =>
      rw [hc] at h5
      injection h5 with h5
      subst h5
      have hcs : clock = stepped := by simpa using hc
      subst hcs
      obtain ⟨_, i, hs, ⟨m', g1, g2, g3⟩, _⟩ := h.live _ _ hg
      have ha' := hi2 i hs
      rw [g3] at ha'
      subst ha'
      obtain ⟨_, im, hsm, ⟨es', q1, q2, q3⟩, _⟩ := h.live _ _ hgm
      have hrel : ERs σ S es es'.toList := ⟨by simpa using q2, fun j e he => by obtain ⟨e', a, b⟩ := q3 j e he; exact ⟨e', by simpa using a, b⟩⟩
      cases g2 with
      | map _ mb hmb hmi =>
        have := hmi im hsm
        subst this
        obtain ⟨e', k1, k2⟩ := ERs.find (fun k => k == stamp) es es'.toList e hrel h4
        have hback : seen.toArray.back? = some stamp := by simpa using h3
        have hf : es'.find? (fun e => e.born == stamp) = some e' := by rw [← Array.find?_toList]; exact k1
        refine Shows.pure_ h (r' := .tuple #[e'.key, e'.val]) ?_ (.tuple _ _ (.cons _ _ _ _ (by rw [k2.1]; exact VR.flat 8 _ k2.2.1) (.cons _ _ _ _ k2.2.2.2 .nil)))
        simp [Instr.entry, getObj, Sem.run, g1, q1, hback, hf]
def adelete (X : Tab) (H : AH) (t : TypeId) (m k : Value) : Option (Value × AH) := do
  let d ← X.und t
  match d, m with
  | .map kt _, .map (some r) => do
    let kd ← X.und kt
    match H.get r with
    | some (.map es clock) => do
      let f ← Instr.findNow kd k es 0
      cond (keyB kd k && flatF 8 k && Nat.blt r 16777215) (some (.tuple #[], H.put r (.map (match f with | some (i, _) => es.eraseIdx i | none => es) clock))) none
    | _ => none
  | _, _ => none
theorem delete_sound (hX : TabOk P X) (h : Rep σ S H W B) {t t2 ty : TypeId} {m m' k k' r : Value} {H' : AH} (hm : VR σ S m m') (hk : VR σ S k k') (ha : adelete X H t m k = some (r, H')) :
    Shows P σ S H W B (Builtin.delete_ #[t, t2] ty #[m', k']) r H' := by
  unfold adelete at ha
  simp only [Option.bind_eq_bind, Option.bind_eq_some_iff] at ha
  obtain ⟨d, h1, h2⟩ := ha
  split at h2
  case h_2 => cases h2
  rename_i kt et b
  simp only [Option.bind_eq_some_iff] at h2
  obtain ⟨kd, h3, h4⟩ := h2
  split at h4
  case h_2 => cases h4
  rename_i es clock hg
  simp only [Option.bind_eq_some_iff] at h4
  obtain ⟨f, h5, h6⟩ := h4
  cases hc : (keyB kd k && flatF 8 k && Nat.blt b 16777215) with
  | false => rw [hc] at h6; cases h6
  | true =>
    rw [hc] at h6
    injection h6 with h6
    injection h6 with h6 h7
    subst h6 h7
    simp only [Bool.and_eq_true, Nat.blt_eq] at hc
    obtain ⟨⟨c1, c2⟩, c3⟩ := hc
    have hkk := flat_same hk c2
    subst hkk
    cases hm with
    | map _ b' hb hi =>
      obtain ⟨_, i, hs, ⟨es', g1, g2, g3⟩, _⟩ := h.live _ _ hg
      rw [hi i hs]
      have e1 := hX.und t _ h1
      have hrel : ERs σ S es es'.toList := ⟨by simpa using g2, fun j e he => by obtain ⟨e', a, b⟩ := g3 j e he; exact ⟨e', by simpa using a, b⟩⟩
      have hck := fun e => checkKey_run (P := P) hX h3 c1 e W
      rcases findNow_rel es es'.toList 0 f hrel h5 with ⟨rfl, q2⟩ | ⟨j, e, e', rfl, q3, q4, q5, q6, q7⟩
      · have hfk := run_findKey (P := P) (w := W) (hX.und kt kd h3) q2
        have hp := put_map (es2 := es) (es2' := es') (clock2 := clock) h hg hs c3 g1 hrel
        exact ⟨σ, S, _, .tuple #[], by simp [Builtin.delete_, run_underlying e1, MapKept.run_getObj_map g1, hck, hfk, run_setObj_map _ g1], hp.1, hp.2, .tuple _ _ .nil, Taken.refl _ _⟩
      · have hfk := run_findKey (P := P) (w := W) (hX.und kt kd h3) q7
        simp only [Nat.zero_add] at hfk
        have hjl : j < es'.size := by
          have := (List.getElem?_eq_some_iff.1 q4).1
          simpa using this
        have hel : (es'.eraseIdxIfInBounds j).toList = es'.toList.eraseIdx j := by
          unfold Array.eraseIdxIfInBounds
          rw [dif_pos hjl, Array.toList_eraseIdx]
        have hp := put_map (es2 := es.eraseIdx j) (es2' := es'.eraseIdxIfInBounds j) (clock2 := clock) h hg hs c3 g1 (by
          rw [hel]
          have hj1 : j < es.length := (List.getElem?_eq_some_iff.1 q3).1
          refine ⟨by rw [List.length_eraseIdx, List.length_eraseIdx, if_pos hj1, if_pos (by simpa using hjl), hrel.1], fun k x hx => ?_⟩
          rw [List.getElem?_eraseIdx] at hx ⊢
          split at hx
          · rename_i hlt
            rw [if_pos hlt]
            exact hrel.2 k x hx
          · rename_i hge
            rw [if_neg hge]
            exact hrel.2 (k + 1) x hx)
        refine ⟨σ, S, { W with heap := W.heap.setIfInBounds i.blk (.map (es'.eraseIdxIfInBounds j) clock) }, .tuple #[], ?_, by simpa using hp.1, hp.2, .tuple _ _ .nil, Taken.refl _ _⟩
        simp [Builtin.delete_, run_underlying e1, MapKept.run_getObj_map g1, hck, hfk, run_setObj_map _ g1]
def acopy (X : Tab) (H : AH) (dT : TypeId) (d s : Value) : Option (Value × AH) := do
  let dd ← X.und dT
  match dd, d, s with
  | .slice e, .slice (some ⟨b, off, none⟩) dl _, .slice (some ⟨b2, off2, none⟩) sl _ => do
    let it ← X.inf e
    let (cs, el, g) ← cellsAt H b
    let (cs2, _, _) ← cellsAt H b2
    cond (Nat.beq ((cs2.drop off2).take (Nat.min sl dl * it.size)).length (Nat.min sl dl * it.size) && ((cs2.drop off2).take (Nat.min sl dl * it.size)).all one && Nat.ble (off + ((cs2.drop off2).take (Nat.min sl dl * it.size)).length) cs.length && Nat.blt b 16777215)
      (some (.int .i64 (Nat.min sl dl), H.put b (.cells (wr cs ((cs2.drop off2).take (Nat.min sl dl * it.size)) off) el g))) none
  | _, _, _ => none
theorem copy_sound (hX : TabOk P X) (h : Rep σ S H W B) {dT sT ty : TypeId} {d d' s s' r : Value} {H' : AH} (hd : VR σ S d d') (hs : VR σ S s s') (ha : acopy X H dT d s = some (r, H')) :
    Shows P σ S H W B (Builtin.copy_ #[dT, sT] ty #[d', s']) r H' := by
  unfold acopy at ha
  simp only [Option.bind_eq_bind, Option.bind_eq_some_iff] at ha
  obtain ⟨dd, h1, h2⟩ := ha
  split at h2
  case h_2 => cases h2
  rename_i e b off dl cap b2 off2 sl cap2
  simp only [Option.bind_eq_some_iff] at h2
  obtain ⟨it, h3, ⟨cs, el, g⟩, h4, ⟨cs2, el2, g2⟩, h5, h6⟩ := h2
  simp only at h6
  cases hc : (Nat.beq ((cs2.drop off2).take (Nat.min sl dl * it.size)).length (Nat.min sl dl * it.size) && ((cs2.drop off2).take (Nat.min sl dl * it.size)).all one && Nat.ble (off + ((cs2.drop off2).take (Nat.min sl dl * it.size)).length) cs.length && Nat.blt b 16777215) with
  | false => rw [hc] at h6; cases h6
  | true =>
    rw [hc] at h6
    simp only [cond_true] at h6
    injection h6 with h6
    injection h6 with h6 h7
    subst h6 h7
    simp only [Bool.and_eq_true, Nat.ble_eq, Nat.blt_eq, List.all_eq_true] at hc
    obtain ⟨⟨⟨c1, c2⟩, c3⟩, c4⟩ := hc
    have c1 : ((cs2.drop off2).take (Nat.min sl dl * it.size)).length = Nat.min sl dl * it.size := by simpa using c1
    cases hd with
    | slice _ _ _ _ dcap' da' hdb hdl hdm hdi =>
      cases hs with
      | slice _ _ _ _ scap' sa' hsb hsl hsm hsi =>
        obtain ⟨i2, c', lo, hi', hs2, hh2, hcs2, _⟩ := h.cells_ h5
        obtain ⟨rfl, _⟩ := hsi i2 hs2
        obtain ⟨rs, k1, k2, k3⟩ := range_real hcs2 c1
        obtain ⟨i, hsb2, w1, w2, w3, w4⟩ := h.write h4 c3 k2 c4
        obtain ⟨rfl, _⟩ := hdi i hsb2
        have hone : ∀ u ∈ rs, u.oneCell' = true := by
          intro u hu
          obtain ⟨j, hj, rfl⟩ := List.getElem_of_mem hu
          obtain ⟨u', g1, g2⟩ := k2.get (List.getElem?_eq_getElem (by rw [k2.length]; exact hj))
          rw [List.getElem?_eq_getElem hj] at g1
          injection g1 with g1
          rw [g1, one_vr g2]
          exact c2 _ (List.getElem_mem _)
        have hl := run_loadCells_list (P := P) W ⟨i2.blk, i2.base + off2, none⟩ rs (fun j u hu => by rw [Addr.add_mid, cell_of hh2]; exact k3 j u hu)
        rw [k1] at hl
        have hst := run_storeCells_cells (P := P) i.blk (i.base + off) rs 0 W (by simpa using w1) (by simpa using w2) hone
        simp only [Nat.add_zero] at hst
        refine ⟨σ, S, _, .int .i64 (Nat.min sl dl), ?_, w3, w4, .int _ _, Taken.refl _ _⟩
        simp [Builtin.copy_, run_underlying (hX.und dT _ h1), Builtin.lenOf, Builtin.firstCells, sizeOf, typeInfo, hX.inf e it h3, hl, hst, goInt]
def lenS : Value → Option Nat
  | .slice _ n _ => some n
  | _ => none
def acopy0 (X : Tab) (H : AH) (dT : TypeId) (d s : Value) : Option (Value × AH) := do
  let dd ← X.und dT
  match dd with
  | .slice e => do
    let _ ← X.inf e
    let dl ← lenS d
    let sl ← lenS s
    cond (Nat.beq (Nat.min sl dl) 0) (some (.int .i64 0, H)) none
  | _ => none
theorem lenS_vr {n : Ids} {v v' : Value} {k : Nat} (h : lenS v = some k) (r : VR σ n v v') : ∃ a c, v' = .slice a k c := by
  unfold lenS at h
  split at h
  · injection h with h
    subst h
    cases r with
    | sliceNil => exact ⟨none, 0, rfl⟩
    | slice _ _ _ _ cap' a' _ _ _ _ => exact ⟨some a', cap', rfl⟩
  · cases h
theorem copy0_sound (hX : TabOk P X) (h : Rep σ S H W B) {dT sT ty : TypeId} {d d' s s' r : Value} {H' : AH} (hd : VR σ S d d') (hs : VR σ S s s') (ha : acopy0 X H dT d s = some (r, H')) :
    Shows P σ S H W B (Builtin.copy_ #[dT, sT] ty #[d', s']) r H' := by
  unfold acopy0 at ha
  simp only [Option.bind_eq_bind, Option.bind_eq_some_iff] at ha
  obtain ⟨dd, h1, h2⟩ := ha
  split at h2
  case h_2 => cases h2
  rename_i e
  simp only [Option.bind_eq_some_iff] at h2
  obtain ⟨it, h3, dl, h4, sl, h5, h6⟩ := h2
  cases hc : Nat.beq (Nat.min sl dl) 0 with
  | false => rw [hc] at h6; cases h6
  | true =>
    rw [hc] at h6
    injection h6 with h6
    injection h6 with h6 h7
    subst h6 h7
    obtain ⟨a, c, rfl⟩ := lenS_vr h4 hd
    obtain ⟨a2, c2, rfl⟩ := lenS_vr h5 hs
    have h0 : Nat.min sl dl = 0 := by simpa using hc
    refine Shows.pure_ h (r' := .int .i64 0) ?_ (.int _ _)
    cases a <;> cases a2 <;> simp [Builtin.copy_, run_underlying (hX.und dT _ h1), Builtin.lenOf, Builtin.firstCells, sizeOf, typeInfo, hX.inf e it h3, h0, loadCells, loadCellsFrom, storeCells, goInt]
def amakeSlice (X : Tab) (H : AH) (t : TypeId) (l c : Value) : Option (Value × AH) := do
  let d ← X.und t
  let (_, ln) ← intOf? l
  let (_, cn) ← intOf? c
  match d with
  | .slice e => do
    let it ← X.inf e
    let z ← it.zero
    cond (decide (0 ≤ ln) && decide (ln ≤ cn) && decide (cn ≤ 1048576) && Nat.ble it.bytes 1048576 && flatF 8 z) (do
      let (id, H') ← H.new (.cells (madeCells z.cells (cn.toNat * it.size)).toList e none)
      some (.slice (some ⟨id, 0, none⟩) ln.toNat cn.toNat, H')) none
  | _ => none
theorem makeSlice_sound (hX : TabOk P X) (h : Rep σ S H W B) (hfree : ¬ S H.next) (hB : B ≤ W.heap.size) {t : TypeId} {l l' c c' r : Value} {H' : AH} (hl : VR σ S l l') (hc : VR σ S c c') (ha : amakeSlice X H t l c = some (r, H')) :
    Shows P σ S H W B (Instr.makeSlice t l' c') r H' := by
  unfold amakeSlice at ha
  simp only [Option.bind_eq_bind, Option.bind_eq_some_iff] at ha
  obtain ⟨d, h1, ⟨kl, ln⟩, h2, ⟨kc, cn⟩, h3, h4⟩ := ha
  obtain ⟨rfl, rfl⟩ := intOf_vr h2 hl
  obtain ⟨rfl, rfl⟩ := intOf_vr h3 hc
  split at h4
  case h_2 => cases h4
  rename_i e
  simp only [Option.bind_eq_some_iff] at h4
  obtain ⟨it, h5, z, h6, h7⟩ := h4
  cases hcd : (decide (0 ≤ ln) && decide (ln ≤ cn) && decide (cn ≤ 1048576) && Nat.ble it.bytes 1048576 && flatF 8 z) with
  | false => rw [hcd] at h7; cases h7
  | true =>
    rw [hcd] at h7
    simp only [cond_true, Option.bind_eq_some_iff] at h7
    obtain ⟨⟨id, H1⟩, h8, h9⟩ := h7
    injection h9 with h9
    injection h9 with h9 h10
    subst h9 h10
    simp only [Bool.and_eq_true, decide_eq_true_eq, Nat.ble_eq] at hcd
    obtain ⟨⟨⟨⟨c1, c2⟩, c3⟩, c4⟩, c5⟩ := hcd
    have hb : (it.bytes : Int) * cn ≤ 281474976710656 := by
      have h11 : it.bytes * cn.toNat ≤ 1048576 * 1048576 := Nat.mul_le_mul c4 (by omega)
      have h12 : ((it.bytes * cn.toNat : Nat) : Int) = (it.bytes : Int) * cn := by
        rw [Int.natCast_mul, Int.toNat_of_nonneg (by omega)]
      omega
    have hrun := run_make (P := P) W t e it z (hX.und t _ h1) (hX.inf e it h5) h6 kl kc ln cn c1 c2 hb (by omega)
    have hzv := zeros_vr (σ := σ) (n := S) c5 (c := z.cells) (.inr rfl) (cn.toNat * it.size)
    obtain ⟨σ', S', k1, k2, k3, k4, k5⟩ := h.newCells hfree hB h8 (vs' := (madeCells z.cells (cn.toNat * it.size)).toList) hzv
    refine ⟨σ', S', W.alloc (.cells (madeCells z.cells (cn.toNat * it.size)) e), _, hrun, by simpa using k2, by simpa using k3, .slice _ _ _ _ _ _ k4 (by omega) (by simp [maxLen]; omega) fun i hi => (by rw [k1] at hi; injection hi with hi; subst hi; exact ⟨rfl, rfl⟩), k5⟩
def aclone (H : AH) (vs : List Value) : Option (Value × AH) := match vs with
  | [.iface t (.map (some r))] => match H.get r with
    | some (.map es clock) => do
      let (id, H') ← H.new (.map es clock)
      some (.iface t (.map (some id)), H')
    | _ => none
  | _ => none
theorem clone_sound (h : Rep σ S H W B) (hfree : ¬ S H.next) (hB : B ≤ W.heap.size) {vs : List Value} {vs' : Array Value} {r : Value} {H' : AH} (hv : VRs σ S vs vs'.toList) (ha : aclone H vs = some (r, H')) : Shows P σ S H W B (Extern.MapsClone.clone vs') r H' := by
  unfold aclone at ha
  split at ha
  case h_2 => cases ha
  rename_i t b
  split at ha
  case h_2 => cases ha
  rename_i es clock hg
  simp only [Option.bind_eq_bind, Option.bind_eq_some_iff] at ha
  obtain ⟨⟨id, H1⟩, h1, h2⟩ := ha
  injection h2 with h2
  injection h2 with h2 h3
  subst h2 h3
  obtain ⟨l, hl⟩ : ∃ l, vs'.toList = l := ⟨_, rfl⟩
  have hvs : vs' = l.toArray := by cases vs'; simpa using hl
  rw [hl] at hv
  subst hvs
  cases hv with
  | cons _ v' _ l' hv ht =>
    cases ht
    cases hv with
    | iface _ _ u' hu =>
      cases hu with
      | map _ b' hb hi =>
        obtain ⟨_, i, hs, ⟨es', g1, g2, g3⟩, _⟩ := h.live _ _ hg
        have := hi i hs
        subst this
        obtain ⟨σ', k1, k2, k3, rfl, k6⟩ := h.new_ hfree h1 (ob := .map es' clock) (k := 0) hB fun σ' hσ => ⟨es', Go.heap_alloc_new W _, g2, fun j e he => by
          obtain ⟨e', a, b⟩ := g3 j e he
          exact ⟨e', a, b.1, b.2.1, b.2.2.1, b.2.2.2.ext hσ⟩⟩
        have k5 : Taken S H.next (more S H.next) H1.next := by rw [k6]; exact taken_more _ _
        refine ⟨σ', _, W.alloc (.map es' clock), .iface t (.map (some W.heap.size)), ?_, k2, k3, .iface _ _ _ (.map _ _ (.inr rfl) fun i hi => (by rw [k1] at hi; injection hi with hi; subst hi; rfl)), k5⟩
        have hcl : Extern.MapsClone.clone [Value.iface t (.map (some i.blk))].toArray = (do
          let .map entries clock ← getObj i.blk | stuck "maps.clone: a map expected"
          pure (.iface t (.map (some (← newObj (.map entries clock)))))) := rfl
        rw [hcl]
        simp [getObj, Sem.run, g1]
end
end
end Go.Proofs.YtnckhmfajjcgpaaGreatDoor.Ev
