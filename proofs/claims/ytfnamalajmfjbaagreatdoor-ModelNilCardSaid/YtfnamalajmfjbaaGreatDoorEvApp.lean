/- append: abstract, and what it says of the real run. -/
import Derived.Test.YtfnamalajmfjbaaGreatDoorEvParts3
import Derived.Deep.Upon
set_option linter.unusedVariables false
set_option linter.unusedSimpArgs false
namespace Go.Proofs.YtfnamalajmfjbaaGreatDoor.Ev
noncomputable section
section
variable {P : Program} {X : Tab} {σ : Ren} {S : Ids} {H : AH} {W : World} {B : Nat}
/-- what is appended: its elements' number, its cells -/
def asrc (X : Tab) (H : AH) (tx : TypeId) (size : Nat) (x : Value) : Option (Nat × List Value) := do
  let d ← X.und tx
  match d, x with
  | .string, .string s => cond (Nat.beq size 1) (some (s.size, byteCells s)) none
  | .slice _, .slice none _ _ => some (0, [])
  | .slice _, .slice (some ⟨b, off, none⟩) n _ => do
    let (cs, _, _) ← cellsAt H b
    cond (Nat.beq ((cs.drop off).take (n * size)).length (n * size) && ((cs.drop off).take (n * size)).all one) (some (n, (cs.drop off).take (n * size))) none
  | _, _ => none
theorem src_sound (hX : TabOk P X) (h : Rep σ S H W B) {tx : TypeId} {size n : Nat} {x x' : Value} {news : List Value} (hx : VR σ S x x') (ha : asrc X H tx size x = some (n, news)) :
    ∃ news', Src P size tx x' n news' W ∧ VRs σ S news news' ∧ news.length = n * size := by
  unfold asrc at ha
  simp only [Option.bind_eq_bind, Option.bind_eq_some_iff] at ha
  obtain ⟨d, h1, h2⟩ := ha
  have e1 := hX.und tx _ h1
  split at h2
  · rename_i s
    cases hs : Nat.beq size 1 with
    | false => rw [hs] at h2; cases h2
    | true =>
      rw [hs] at h2
      injection h2 with h2
      injection h2 with h2 h3
      subst h2 h3
      have hs1 : size = 1 := by simpa using hs
      subst hs1
      cases hx
      refine ⟨_, Src.ofString W e1 s, VRs.of_get rfl fun i v v' hv hv' => ?_, by rw [byteCells_length, Nat.mul_one]⟩
      rw [hv] at hv'
      injection hv' with hv'
      subst hv'
      obtain ⟨hi, he⟩ := List.getElem?_eq_some_iff.1 hv
      rw [← he]
      simp only [byteCells, List.getElem_map]
      exact .int _ _
  · injection h2 with h2
    injection h2 with h2 h3
    subst h2 h3
    cases hx
    exact ⟨[], Src.ofNil W e1 0, .nil, by simp⟩
  · rename_i b off n0 cap
    simp only [Option.bind_eq_some_iff] at h2
    obtain ⟨⟨cs, e, g⟩, h3, h4⟩ := h2
    cases hc : (Nat.beq ((cs.drop off).take (n0 * size)).length (n0 * size) && ((cs.drop off).take (n0 * size)).all one) with
    | false => simp only [hc] at h4; cases h4
    | true =>
      simp only [hc, cond_true] at h4
      injection h4 with h4
      injection h4 with h4 h5
      subst h4 h5
      simp only [Bool.and_eq_true, List.all_eq_true] at hc
      have hl : ((cs.drop off).take (n0 * size)).length = n0 * size := by simpa using hc.1
      cases hx with
      | slice _ _ _ _ cap' a' hb hle hm hi =>
        obtain ⟨i, c', lo, hi', hs, hh, hcs, _⟩ := h.cells_ h3
        obtain ⟨rfl, _⟩ := hi i hs
        obtain ⟨rs, k1, k2, k3⟩ := range_real hcs hl
        refine ⟨rs, Src.ofSlice W e1 _ n0 cap' rs k1 (fun j u hu => by rw [Addr.add_mid, cell_of hh]; exact k3 j u hu) fun u hu => ?_, k2, hl⟩
        obtain ⟨j, hj, rfl⟩ := List.getElem_of_mem hu
        obtain ⟨u', g1, g2⟩ := k2.get (List.getElem?_eq_getElem (by rw [k2.length]; exact hj))
        rw [List.getElem?_eq_getElem hj] at g1
        injection g1 with g1
        rw [g1, one_vr g2]
        exact hc.2 _ (List.getElem_mem _)
  · cases h2
def aappend (X : Tab) (H : AH) (t tx : TypeId) (s x : Value) : Option (Value × AH) := do
  let d ← X.und t
  match d with
  | .slice e => do
    let it ← X.inf e
    let z ← it.zero
    let (n, news) ← asrc X H tx it.size x
    cond (Nat.beq n 0) (match s with
      | .slice _ _ _ => some (s, H)
      | _ => none)
      (cond (Nat.beq z.cells.size it.size && Nat.ble it.bytes 1048576) (match s with
        | .slice none _ _ => cond (Nat.ble n 1048576) (do
            let (id, H') ← H.new (.cells news e (some it.size))
            some (.slice (some ⟨id, 0, none⟩) n n, H')) none
        | .slice (some ⟨b, off, none⟩) len cap => do
            let (cs, el, g) ← cellsAt H b
            cond (Nat.ble (len + n) 1048576 && Nat.beq ((cs.drop off).take (len * it.size)).length (len * it.size)) (match g with
              | none => cond (Nat.ble (len + n) cap) (cond (Nat.ble (off + len * it.size + news.length) cs.length && Nat.blt b 16777215)
                    (some (.slice (some ⟨b, off, none⟩) (len + n) cap, H.put b (.cells (wr cs news (off + len * it.size)) el none))) none)
                  (do
                    let (id, H') ← H.new (.cells ((cs.drop off).take (len * it.size) ++ news) e (some it.size))
                    some (.slice (some ⟨id, 0, none⟩) (len + n) (len + n), H'))
              | some q => cond (Nat.beq q it.size && Nat.beq el e && Nat.blt b 16777215) (do
                    let (id, H') ← (H.kill b).new (.cells ((cs.drop off).take (len * it.size) ++ news) e (some it.size))
                    some (.slice (some ⟨id, 0, none⟩) (len + n) (len + n), H')) none) none
        | _ => none) none)
  | _ => none
/-- append that makes a new row -/
theorem grow_shows (hX : TabOk P X) (h : Rep σ S H W B) (hfree : ¬ S H.next) (hB : B ≤ W.heap.size) {t tx ty e : TypeId} {it : TypeInfo} {z x' : Value} (kb : Option Nat) (hkb : ∀ b, kb = some b → b ≠ H.next ∧ b < 16777215) (h1 : X.und t = some (.slice e)) (h2 : X.inf e = some it) (h3 : it.zero = some z)
    (hz : z.cells.size = it.size) (hby : it.bytes ≤ 1048576) {n len cap' : Nat} {base : Option Addr} {olds olds' news news' : List Value} (ho : VRs σ S olds olds') (hn : VRs σ S news news') (hol : olds.length = len * it.size) (hnl : news.length = n * it.size) (hs : Src P it.size tx x' n news' W)
    (hfirst : (Builtin.firstCells it.size len (.slice base len cap')).run P W.drew = .ok olds'.toArray W.drew) (hg : cap' < len + n) (hlen : len + n ≤ 1048576) {id : Nat} {H' : AH} (hnew : (match kb with | some b => H.kill b | none => H).new (.cells (olds ++ news) e (some it.size)) = some (id, H')) :
    Shows P σ S H W B (Builtin.append_ #[t, tx] ty #[.slice base len cap', x']) (.slice (some ⟨id, 0, none⟩) (len + n) (len + n)) H' := by
  have hfit : Builtin.nextslicecap (len + n) cap' * it.bytes ≤ 281474976710656 := growslice_fits hg (by
    have : (len + n) * it.bytes ≤ 1048576 * 1048576 := Nat.mul_le_mul hlen hby
    omega)
  have hrun := run_append_grow_src W t tx ty e it z (hX.und t _ h1) (hX.inf e it h2) h3 base len cap' olds' hfirst x' n news' hs hg (by omega) hfit
  have hgc1 := grownCap_ge W (len + n) cap' e
  have hgc2 := grownCap_le_maxLen W (len + n) cap' e (by simp [maxLen]; omega)
  generalize grownCap W (len + n) cap' e = nc at hrun hgc1 hgc2
  have hzl : (Builtin.zeroCells z.cells (nc - (len + n))).size = (nc - (len + n)) * it.size := by simp [Builtin.zeroCells, hz]
  have hsz : ((olds' ++ news').toArray ++ Builtin.zeroCells z.cells (nc - (len + n))).size = nc * it.size := by
    rw [Array.size_append, hzl]
    simp only [List.size_toArray, List.length_append]
    rw [← ho.length, ← hn.length, hol, hnl, ← Nat.add_mul, ← Nat.add_mul]
    congr 1
    omega
  generalize hc' : (olds' ++ news').toArray ++ Builtin.zeroCells z.cells (nc - (len + n)) = c' at hrun hsz
  obtain ⟨σ', k1, k2, k3, k4, k6⟩ := h.turn hfree kb ⟨W.heap.size, 0, some (it.size, nc * it.size)⟩ (W' := W.drew.alloc (.cells c' e)) hnew hkb (.inl (Nat.le_refl _)) hB
    (fun k hk hlt => Go.RowKit.Below.heap_alloc W.drew _ k hlt) (by simp) rfl rfl rfl fun σ' hσ => ⟨c', 0, 0, Go.heap_alloc_new W.drew _, fun j v hj => by
      obtain ⟨v', a, b⟩ := (ho.append hn).get hj
      refine ⟨v', ?_, b.ext hσ⟩
      rw [← hc', Nat.zero_add, Array.getElem?_append_left (by
        have := (List.getElem?_eq_some_iff.1 a).1
        simpa using this)]
      simpa using a, fun j _ => by omega, rfl, by
        simp only [Nat.zero_add, List.length_append, hsz]
        rw [hol, hnl, ← Nat.add_mul]
        exact Nat.mul_le_mul_right _ hgc1, fun e => (by cases e), fun s tot hst => by injection hst with hst; injection hst with h5 h6; rw [hsz]; exact h6⟩
  subst k4
  exact ⟨σ', _, _, _, hrun, k2, k3, .slice _ _ _ _ _ _ (.inr rfl) hgc1 hgc2 fun i hi => (by rw [k1] at hi; injection hi with hi; subst hi; exact ⟨rfl, by simp [capOk]⟩), by rw [k6]; exact taken_more _ _⟩
set_option maxHeartbeats 1600000 in
theorem append_sound (hX : TabOk P X) (h : Rep σ S H W B) (hfree : ¬ S H.next) (hB : B ≤ W.heap.size) {t tx ty : TypeId} {s s' x x' r : Value} {H' : AH} (hs : VR σ S s s') (hx : VR σ S x x') (ha : aappend X H t tx s x = some (r, H')) :
    Shows P σ S H W B (Builtin.append_ #[t, tx] ty #[s', x']) r H' := by
  unfold aappend at ha
  simp only [Option.bind_eq_bind, Option.bind_eq_some_iff] at ha
  obtain ⟨d, h1, h2⟩ := ha
  split at h2
  case h_2 => cases h2
  rename_i e
  simp only [Option.bind_eq_some_iff] at h2
  obtain ⟨it, h3, z, h4, ⟨n, news⟩, h5, h6⟩ := h2
  obtain ⟨news', q1, q2, q3⟩ := src_sound hX h hx h5
  have e1 := hX.und t _ h1
  have e2 := hX.inf e it h3
  cases hn : Nat.beq n 0 with
  | true =>
    have hn0 : n = 0 := by simpa using hn
    subst hn0
    have : news = [] := List.eq_nil_of_length_eq_zero (by simpa using q3)
    subst this
    cases q2
    rw [hn] at h6
    simp only [cond_true] at h6
    split at h6
    · injection h6 with h6
      injection h6 with h6 h7
      subst h6 h7
      cases hs with
      | sliceNil => exact Shows.pure_ h (run_append_nothing W t tx ty e it e1 e2 none 0 0 (Nat.le_refl _) x' q1) .sliceNil
      | slice b off len cap cap' a' hb hl hm hi => exact Shows.pure_ h (run_append_nothing W t tx ty e it e1 e2 (some a') _ _ hl x' q1) (.slice _ _ _ _ _ _ hb hl hm hi)
    · cases h6
  | false =>
    have hn0 : 0 < n := by
      rcases Nat.eq_zero_or_pos n with h0 | h0
      · subst h0; simp at hn
      · exact h0
    rw [hn] at h6
    simp only [cond_false] at h6
    cases hc : (Nat.beq z.cells.size it.size && Nat.ble it.bytes 1048576) with
    | false => rw [hc] at h6; cases h6
    | true =>
      rw [hc] at h6
      simp only [cond_true] at h6
      simp only [Bool.and_eq_true, Nat.ble_eq] at hc
      obtain ⟨hz, hby⟩ := hc
      have hz : z.cells.size = it.size := by simpa using hz
      split at h6
      · cases hs with
        | sliceNil =>
          cases hc2 : Nat.ble n 1048576 with
          | false => rw [hc2] at h6; cases h6
          | true =>
            rw [hc2] at h6
            simp only [cond_true, Option.bind_eq_some_iff] at h6
            obtain ⟨⟨id, H1⟩, h7, h8⟩ := h6
            injection h8 with h8
            injection h8 with h8 h9
            subst h8 h9
            have hn48 : 0 + n ≤ 1048576 := by
              have : n ≤ 1048576 := by simpa using hc2
              omega
            have := grow_shows (ty := ty) hX h hfree hB none (fun b e => (by cases e)) h1 h3 h4 hz hby (cap' := 0) (base := none) (olds := []) (olds' := []) (len := 0) .nil q2 (by simp) q3 q1 (by simp [Builtin.firstCells]) (by omega) hn48 (id := id) (H' := H1) (by simpa using h7)
            simpa using this
      · rename_i b off len cap
        simp only [Option.bind_eq_some_iff] at h6
        obtain ⟨⟨cs, el, g⟩, h7, h8⟩ := h6
        simp only at h8
        cases hc2 : (Nat.ble (len + n) 1048576 && Nat.beq ((cs.drop off).take (len * it.size)).length (len * it.size)) with
        | false => rw [hc2] at h8; cases h8
        | true =>
          rw [hc2] at h8
          simp only [cond_true] at h8
          simp only [Bool.and_eq_true, Nat.ble_eq] at hc2
          obtain ⟨hlen, hol⟩ := hc2
          have hol : ((cs.drop off).take (len * it.size)).length = len * it.size := by simpa using hol
          cases hs with
          | slice _ _ _ _ cap' a' hb hl hm hi =>
            obtain ⟨i, c', lo, hi', hsb, hh, hcs, hfz, hg, hcl, hex, hgr, hBi, hbn⟩ := h.cells_ h7
            obtain ⟨rfl, hcap⟩ := hi i hsb
            obtain ⟨olds', k1, k2, k3⟩ := range_real hcs hol
            have hfirst : (Builtin.firstCells it.size len (.slice (some ⟨i.blk, i.base + off, none⟩) len cap')).run P W.drew = .ok olds'.toArray W.drew := by
              refine run_firstCells_some W.drew it.size len _ len cap' olds' k1 fun j u hu => ?_
              rw [Addr.add_mid]
              show W.cell? _ = _
              rw [cell_of hh]
              exact k3 j u hu
            split at h8
            · -- no spare that is not known
              have hgn : i.grow = none := by
                cases hq : i.grow with
                | none => rfl
                | some q => rw [hq] at hg; cases hg
              simp only [capOk, hgn] at hcap
              subst hcap
              cases hroom : Nat.ble (len + n) cap' with
              | true =>
                rw [hroom] at h8
                simp only [cond_true] at h8
                cases hc3 : (Nat.ble (off + len * it.size + news.length) cs.length && Nat.blt b 16777215) with
                | false => rw [hc3] at h8; cases h8
                | true =>
                  rw [hc3] at h8
                  injection h8 with h8
                  injection h8 with h8 h9
                  subst h8 h9
                  simp only [Bool.and_eq_true, Nat.ble_eq, Nat.blt_eq] at hc3
                  obtain ⟨i2, w0, w1, w2, w3, w4⟩ := h.write h7 hc3.1 q2 hc3.2
                  rw [hsb] at w0
                  injection w0 with w0
                  subst w0
                  refine ⟨σ, S, W.setCells i.blk (i.base + (off + len * it.size)) news', .slice (some ⟨i.blk, i.base + off, none⟩) (len + n) cap', ?_, w3, w4, .slice _ _ _ _ _ _ hb (by simpa using hroom) hm fun i2 hi2 => hi i2 hi2, Taken.refl _ _⟩
                  have := run_append_room_src W t tx ty e it e1 e2 i.blk (i.base + off) len cap' x' n news' q1 (by simpa using hroom) (fun j hj => by have := w1 j hj; rwa [show i.base + off + len * it.size + j = i.base + (off + len * it.size) + j from by omega]) (fun j hj => by have := w2 j hj; rwa [show i.base + off + len * it.size + j = i.base + (off + len * it.size) + j from by omega])
                  rw [this, show i.base + off + len * it.size = i.base + (off + len * it.size) from by omega]
              | false =>
                rw [hroom] at h8
                simp only [cond_false, Option.bind_eq_some_iff] at h8
                obtain ⟨⟨id, H1⟩, h9, h10⟩ := h8
                injection h10 with h10
                injection h10 with h10 h11
                subst h10 h11
                have hnr : cap' < len + n := by
                  rcases Nat.lt_or_ge cap' (len + n) with h0 | h0
                  · exact h0
                  · have : Nat.ble (len + n) cap' = true := by simpa using h0
                    rw [this] at hroom
                    cases hroom
                exact grow_shows (ty := ty) hX h hfree hB none (fun b e => (by cases e)) h1 h3 h4 hz hby k2 q2 hol q3 q1 hfirst hnr hlen h9
            · rename_i q
              obtain ⟨s0, tot, hgq⟩ : ∃ s0 tot, i.grow = some (s0, tot) := by
                cases hq : i.grow with
                | none => rw [hq] at hg; cases hg
                | some p => exact ⟨p.1, p.2, rfl⟩
              rw [hgq] at hg
              simp only [Option.map_some, Option.some.injEq] at hg
              subst hg
              simp only [capOk, hgq] at hcap
              cases hc3 : (Nat.beq q it.size && Nat.beq el e && Nat.blt b 16777215) with
              | false => rw [hc3] at h8; cases h8
              | true =>
                rw [hc3] at h8
                simp only [cond_true, Option.bind_eq_some_iff] at h8
                obtain ⟨⟨id, H1⟩, h9, h10⟩ := h8
                injection h10 with h10
                injection h10 with h10 h11
                subst h10 h11
                simp only [Bool.and_eq_true] at hc3
                have hq1 : q = it.size := by simpa using hc3.1.1
                have hq2 : el = e := by simpa using hc3.1.2
                have hbb : b < 16777215 := by simpa using hc3.2
                have hbn2 : b ≠ H.next := fun e => hfree (by rw [← e]; exact hbn)
                subst hq1 hq2
                rcases Nat.lt_or_ge cap' (len + n) with hnr | hroom
                · exact grow_shows (ty := ty) hX h hfree hB (some b) (fun b' e' => by injection e' with e'; subst e'; exact ⟨hbn2, hbb⟩) h1 h3 h4 hz hby k2 q2 hol q3 q1 hfirst hnr hlen h9
                · have htot := hgr _ _ hgq
                  have hml : (len + n) * it.size ≤ cap' * it.size := Nat.mul_le_mul_right _ hroom
                  rw [Nat.add_mul] at hml
                  have hnl := q2.length
                  obtain ⟨c2, g1, g2, g3, g4, g5, g6, g7, g8⟩ := setCells_heap (b := i.blk) (e := el) (fz := (lo, hi')) (W := W) (c := c') news' W c' (i.base + off + len * it.size) hh (by omega)
                  obtain ⟨σ', w1, w2, w3, w4, w6⟩ := h.turn hfree (some b) ⟨i.blk, i.base + off, some (it.size, tot)⟩ (W' := W.setCells i.blk (i.base + off + len * it.size) news') h9 (fun b' e' => by injection e' with e'; subst e'; exact ⟨hbn2, hbb⟩) (.inr ⟨b, i, rfl, hsb, rfl⟩) hBi
                    (fun k hk _ => g4 k hk) (by rw [g5]; exact Nat.le_refl _) g6 g7 g8 fun σ' hσ => ⟨c2, lo, hi', g1, fun j v hj => by
                      dsimp only
                      rw [g3]
                      rcases Nat.lt_or_ge j (len * it.size) with hj1 | hj1
                      · rw [if_neg (by omega)]
                        rw [List.getElem?_append_left (by omega)] at hj
                        obtain ⟨v', a1, a2⟩ := k2.get hj
                        exact ⟨v', k3 j v' a1, a2.ext hσ⟩
                      · rw [List.getElem?_append_right (by omega), hol] at hj
                        obtain ⟨v', a1, a2⟩ := q2.get hj
                        have hjl := (List.getElem?_eq_some_iff.1 a1).1
                        rw [if_pos (by omega)]
                        exact ⟨v', by rw [← a1]; congr 1; omega, a2.ext hσ⟩, by rw [g2]; exact hfz, rfl, by
                          simp only [List.length_append, hol, g2]
                          omega, fun e => (by cases e), fun s1 t1 hst => by injection hst with hst; injection hst with h5 h6; rw [g2, htot, h6]⟩
                  subst w4
                  refine ⟨σ', _, _, .slice (some ⟨i.blk, i.base + off, none⟩) (len + n) cap', run_append_room_src W t tx ty el it e1 e2 i.blk (i.base + off) len cap' x' n news' q1 hroom (fun j hj => ?_) (fun j hj => frozen_of hh (hfz _ (by omega))), w2, w3, .slice _ _ _ _ _ _ (.inr rfl) hroom hm fun i2 hi2 => ?_, by rw [w6]; exact taken_more _ _⟩
                  · rw [cell_of hh, Array.getElem?_eq_getElem (by omega)]
                    rfl
                  · rw [w1] at hi2
                    injection hi2 with hi2
                    subst hi2
                    exact ⟨rfl, by simp only [capOk]; omega⟩
      · cases h6
  
end
end
end Go.Proofs.YtfnamalajmfjbaaGreatDoor.Ev
