/- Conversions of strings, iterators' steps, deleting, copying, making: abstract, and what they say of the real run. -/
import Derived.Test.YtfnamalajmfjbaaGreatDoorEvMaps
import Derived.Laws.MakeOwn
set_option linter.unusedVariables false
set_option linter.unusedSimpArgs false
namespace Go.Proofs.YtfnamalajmfjbaaGreatDoor.Ev
noncomputable section
open Go.MapKept
section
variable {P : Program} {X : Tab} {σ : Ren} {S : Ids} {H : AH} {W : World} {B : Nat}
/-- the numbers of byte cells -/
def bytesOf : List Value → Option (List Int)
  | [] => some []
  | v :: l => match v with
    | .int .u8 n => (bytesOf l).bind fun r => some (n :: r)
    | _ => none
theorem bytesOf_vr {σ : Ren} {n : Ids} : ∀ (l l' : List Value) (ns : List Int), bytesOf l = some ns → VRs σ n l l' → l' = ns.map (Value.int .u8)
  | [], _, ns, h, hv => by cases hv; simp only [bytesOf] at h; injection h with h; subst h; rfl
  | v :: l, _, ns, h, hv => by
    cases hv with
    | cons _ v' _ l' hv ht =>
      unfold bytesOf at h
      split at h
      · rw [Option.bind_eq_some_iff] at h
        obtain ⟨r, h1, h2⟩ := h
        injection h2 with h2
        subst h2
        cases hv
        rw [bytesOf_vr l l' r h1 ht]
        rfl
      · cases h
def pushAll (ns : List Int) : ByteArray := ns.foldl (fun r n => r.push (UInt8.ofNat n.toNat)) ByteArray.empty
def aconvert (X : Tab) (H : AH) (src dst : TypeId) (v : Value) : Option (Value × AH) := do
  let s ← X.und src
  let d ← X.und dst
  match s, d, v with
  | .slice e, .string, .slice (some ⟨b, off, none⟩) len _ => do
    let ed ← X.und e
    let (cs, _, _) ← cellsAt H b
    match ed with
    | .int .u8 => cond (Nat.beq ((cs.drop off).take len).length len) (do
      let ns ← bytesOf ((cs.drop off).take len)
      some (.string (pushAll ns), H)) none
    | _ => none
  | .string, .slice e, .string s => do
    let ed ← X.und e
    match ed with
    | .int .u8 => do
      let (id, H') ← H.new (.cells (byteCells s) e (some 1))
      cond (Nat.ble s.size 1048576) (some (.slice (some ⟨id, 0, none⟩) s.size s.size, H')) none
    | _ => none
  | _, _, _ => none
theorem convert_sound (hX : TabOk P X) (h : Rep σ S H W B) (hfree : ¬ S H.next) (hB : B ≤ W.heap.size) {src dst : TypeId} {v v' r : Value} {H' : AH} (hv : VR σ S v v') (ha : aconvert X H src dst v = some (r, H')) : Shows P σ S H W B (convert src dst v') r H' := by
  unfold aconvert at ha
  simp only [Option.bind_eq_bind, Option.bind_eq_some_iff] at ha
  obtain ⟨s, h1, d, h2, h3⟩ := ha
  have e1 := hX.und src s h1
  have e2 := hX.und dst d h2
  split at h3
  · rename_i e b off len cap
    simp only [Option.bind_eq_some_iff] at h3
    obtain ⟨ed, h4, ⟨cs, el, g⟩, h5, h6⟩ := h3
    have e3 := hX.und e ed h4
    split at h6
    · cases hl : Nat.beq ((cs.drop off).take len).length len with
      | false => simp only [hl] at h6; cases h6
      | true =>
        simp only [hl, cond_true, Option.bind_eq_some_iff] at h6
        obtain ⟨ns, h7, h8⟩ := h6
        injection h8 with h8
        injection h8 with h8 h9
        subst h8 h9
        cases hv with
        | slice _ _ _ _ cap' a' hb hle hm hi =>
          obtain ⟨i, c', lo, hi', hs, hh, hcs, _⟩ := h.cells_ h5
          obtain ⟨rfl, _⟩ := hi i hs
          obtain ⟨rs, k1, k2, k3⟩ := range_real hcs (by simpa using hl)
          have hrs := bytesOf_vr _ _ ns h7 k2
          have hload : (loadCells (⟨i.blk, i.base + off, none⟩ : Addr) len).run P W = .ok (ns.map (Value.int .u8)).toArray W := by
            have := run_loadCells_list (P := P) W ⟨i.blk, i.base + off, none⟩ rs (fun j u hu => by rw [Addr.add_mid, cell_of hh]; exact k3 j u hu)
            rw [k1, hrs] at this
            exact this
          have hbs := run_bytesToString (P := P) W ⟨i.blk, i.base + off, none⟩ len cap' ns hload
          refine Shows.pure_ h (r' := .string (pushAll ns)) ?_ (.string _)
          simp [convert, run_underlying e1, run_underlying e2, run_underlying e3, hbs, pushAll]
    · cases h6
  · rename_i e s
    simp only [Option.bind_eq_some_iff] at h3
    obtain ⟨ed, h4, h5⟩ := h3
    have e3 := hX.und e ed h4
    split at h5
    · simp only [Option.bind_eq_some_iff] at h5
      obtain ⟨⟨id, H1⟩, h6, h7⟩ := h5
      cases hc : Nat.ble s.size 1048576 with
      | false => rw [hc] at h7; cases h7
      | true =>
        rw [hc] at h7
        injection h7 with h7
        injection h7 with h7 h8
        subst h7 h8
        have hsz : s.size ≤ 1048576 := by simpa using hc
        cases hv
        obtain ⟨cap, hcap⟩ : ∃ cap, grownCap W s.size 0 e = cap := ⟨_, rfl⟩
        have hg1 := grownCap_ge W s.size 0 e
        have hg2 := grownCap_le_maxLen W s.size 0 e (by simp [maxLen]; omega)
        rw [hcap] at hg1 hg2
        obtain ⟨c', hc'⟩ : ∃ c' : Array Value, (s.data.map fun b => Value.int .u8 b.toNat) ++ Array.replicate (cap - s.size) (.int .u8 0) = c' := ⟨_, rfl⟩
        have hlen : c'.size = cap := by
          rw [← hc']
          have : s.data.size = s.size := rfl
          simp [this]
          omega
        have hrun : (convert src dst (.string s)).run P W = .ok (.slice (some ⟨W.heap.size, 0, none⟩) s.size cap) ((W.drew.alloc (.cells c' e)).freeze ⟨W.heap.size, c'.size, none⟩ 1) := by
          have hq : (Question.appendCap s.size 0 e).cut (W.tape W.drawn (.appendCap s.size 0 e)) = cap := hcap
          have hsh : (W.drew.alloc (.cells c' e)).shape? W.heap.size = some (e, c'.size) := by
            have := Go.heap_alloc_new W.drew (.cells c' e)
            unfold World.shape?
            rw [show W.heap.size = W.drew.heap.size from rfl, this]
          simp only [convert, Sem.run_bind, run_underlying e1, run_underlying e2, run_underlying e3, Result.andThen_ok, Conv.stringToBytes, choose, Sem.run, Question.forced, Bool.false_eq_true, if_false, hq, hc', newRow, newObj, markStringish, shape, freeze]
          show Result.andThen (Sem.run P _ _) _ = _
          rw [show ({ heap := W.heap.push (Obj.cells c' e), tape := W.tape, drawn := W.drawn + 1, os := W.os, output := W.output } : World) = W.drew.alloc (.cells c' e) from rfl] at *
          simp only [Sem.run_pure, Result.andThen_ok, hsh]
          rfl
        have hfz : ((W.drew.alloc (.cells c' e)).freeze ⟨W.heap.size, c'.size, none⟩ 1).heap[W.heap.size]? = some (.cells c' e (c'.size, c'.size + 1)) := by
          have h9 := Go.heap_alloc_new W.drew (.cells c' e)
          rw [show W.drew.heap.size = W.heap.size from rfl] at h9
          unfold World.freeze
          rw [if_neg (by omega)]
          rw [Array.getElem?_modify, if_pos rfl, h9]
          rfl
        have hoth : ∀ k, k ≠ W.heap.size → k < W.heap.size → ((W.drew.alloc (.cells c' e)).freeze ⟨W.heap.size, c'.size, none⟩ 1).heap[k]? = W.heap[k]? := by
          intro k hk hlt
          unfold World.freeze
          rw [if_neg (by omega)]
          rw [Array.getElem?_modify, if_neg (Ne.symm hk)]
          exact Go.RowKit.Below.heap_alloc W.drew _ k hlt
        obtain ⟨σ', k1, k2, k3, k4, k6⟩ := h.turn hfree none ⟨W.heap.size, 0, some (1, cap)⟩ (o := .cells (byteCells s) e (some 1)) (W' := (W.drew.alloc (.cells c' e)).freeze ⟨W.heap.size, c'.size, none⟩ 1) (by simpa using h6) (fun b e => (by cases e)) (.inl (Nat.le_refl _)) hB hoth
          (by unfold World.freeze; rw [if_neg (by omega)]; simp) (by unfold World.freeze; rw [if_neg (by omega)]; rfl) (by unfold World.freeze; rw [if_neg (by omega)]; rfl) (by unfold World.freeze; rw [if_neg (by omega)]; rfl)
          fun σ' hσ => ⟨c', c'.size, c'.size + 1, hfz, fun j u hu => by
            refine ⟨u, ?_, ?_⟩
            · have hj := (List.getElem?_eq_some_iff.1 hu).1
              rw [byteCells_length] at hj
              rw [← hc', Nat.zero_add, Array.getElem?_append_left (by have : s.data.size = s.size := rfl; simp [this]; exact hj)]
              rw [← Array.getElem?_toList]
              simpa [byteCells] using hu
            · obtain ⟨hj, he⟩ := List.getElem?_eq_some_iff.1 hu
              rw [← he]
              simp only [byteCells, List.getElem_map]
              exact .int _ _, fun j _ => by omega, rfl, by rw [byteCells_length, hlen]; simpa using hg1, fun e => (by cases e), fun s0 t0 hst => by injection hst with hst; injection hst with h9 h10; rw [hlen, h10]⟩
        have k4' : id = H.next := k4
        subst k4'
        have k7 : Taken S H.next (more S H.next) H1.next := by
          have : H1.next = H.next + 1 := k6
          rw [this]; exact taken_more _ _
        exact ⟨σ', _, _, _, hrun, k2, k3, .slice _ _ _ _ _ _ (.inr rfl) hg1 hg2 fun i hi => (by rw [k1] at hi; injection hi with hi; subst hi; exact ⟨rfl, by simp [capOk]⟩), k7⟩
    · cases h5
  · cases h3
end
end
end Go.Proofs.YtfnamalajmfjbaaGreatDoor.Ev
